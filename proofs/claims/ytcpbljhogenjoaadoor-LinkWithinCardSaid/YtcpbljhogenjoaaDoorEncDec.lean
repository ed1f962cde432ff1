/- Plain: a character's bytes decode to it. No walk here. -/
import Derived.Test.YtcpbljhogenjoaaDoorEscDef
import Derived.Laws.Runes
namespace Go.Proofs.YtcpbljhogenjoaaDoor
set_option linter.unusedVariables false
set_option linter.unusedSimpArgs false
open Go Go.RowKit Go.Lib

theorem enc_val (n : Nat) (h : ¬ (55296 ≤ n ∧ n < 57344)) (h2 : n ≤ 1114111) : Utf8.encode (n : Int) =
    if n < 128 then ⟨#[UInt8.ofNat n]⟩ else if n < 2048 then ⟨#[UInt8.ofNat (192 + n / 64), UInt8.ofNat (128 + n % 64)]⟩
    else if n < 65536 then ⟨#[UInt8.ofNat (224 + n / 4096), UInt8.ofNat (128 + n / 64 % 64), UInt8.ofNat (128 + n % 64)]⟩
    else ⟨#[UInt8.ofNat (240 + n / 262144), UInt8.ofNat (128 + n / 4096 % 64), UInt8.ofNat (128 + n / 64 % 64), UInt8.ofNat (128 + n % 64)]⟩ := by
  have hv : Utf8.valid (n : Int) = true := by rw [validRune_eq]; unfold validRune; exact decide_eq_true (by omega)
  unfold Utf8.encode
  simp only [hv, if_true, Int.toNat_natCast]

theorem get_drop (s : ByteArray) (p k : Nat) (l : List UInt8) (h : s.data.toList.drop p = l) (hk : k < l.length) : (s.get! (p + k)).toNat = (l.getD k 0).toNat ∧ p + k < s.size := by
  have hlt : p + k < s.size := by
    have := congrArg List.length h
    rw [List.length_drop, lst_size] at this
    omega
  refine ⟨?_, hlt⟩
  rw [get!_of_lt hlt]
  have : l.getD k 0 = s[p + k] := by
    rw [← h, List.getD_eq_getElem?_getD, List.getElem?_drop, List.getElem?_eq_getElem (by rw [lst_size]; exact hlt)]; rfl
  rw [this]

theorem u8v (n : Nat) (h : n < 256) : (UInt8.ofNat n).toNat = n := by simp; omega

theorem dec_enc (s : ByteArray) (p n : Nat) (hv : ¬ (55296 ≤ n ∧ n < 57344)) (h2 : n ≤ 1114111) (rest : List UInt8) (h : s.data.toList.drop p = (Utf8.encode (n : Int)).data.toList ++ rest) :
    Utf8.decode s p = (n, (Utf8.encode (n : Int)).data.toList.length) := by
  have hval : Utf8.valid (n : Int) = true := by rw [validRune_eq]; unfold validRune; exact decide_eq_true (by omega)
  rw [enc_val n hv h2] at h ⊢
  unfold Utf8.decode
  simp only []
  by_cases c1 : n < 128
  · rw [if_pos c1] at h ⊢
    have g0 := get_drop s p 0 _ h (by simp)
    simp only [Nat.add_zero] at g0
    have e0 : (s.get! p).toNat = n := by rw [g0.1]; exact u8v n (by omega)
    simp only [Nat.add_zero, e0]
    rw [if_pos c1]; rfl
  rw [if_neg c1] at h ⊢
  by_cases c2 : n < 2048
  · rw [if_pos c2] at h ⊢
    have g0 := get_drop s p 0 _ h (by simp)
    have g1 := get_drop s p 1 _ h (by simp)
    simp only [Nat.add_zero] at g0
    have e0 : (s.get! p).toNat = 192 + n / 64 := by rw [g0.1]; exact u8v _ (by omega)
    have e1 : (s.get! (p + 1)).toNat = 128 + n % 64 := by rw [g1.1]; exact u8v _ (by omega)
    simp only [Nat.add_zero, e0, e1]
    have hc : (192 + n / 64) % 32 * 64 + (128 + n % 64) % 64 = n := by omega
    rw [hc]
    rw [if_neg (by omega), if_pos (by
      simp only [Bool.and_eq_true, decide_eq_true_eq, beq_iff_eq]
      exact ⟨by omega, g1.2, by omega⟩), if_pos (by omega)]
    rfl
  rw [if_neg c2] at h ⊢
  by_cases c3 : n < 65536
  · rw [if_pos c3] at h ⊢
    have g0 := get_drop s p 0 _ h (by simp)
    have g1 := get_drop s p 1 _ h (by simp)
    have g2 := get_drop s p 2 _ h (by simp)
    simp only [Nat.add_zero] at g0
    have e0 : (s.get! p).toNat = 224 + n / 4096 := by rw [g0.1]; exact u8v _ (by omega)
    have e1 : (s.get! (p + 1)).toNat = 128 + n / 64 % 64 := by rw [g1.1]; exact u8v _ (by omega)
    have e2 : (s.get! (p + 2)).toNat = 128 + n % 64 := by rw [g2.1]; exact u8v _ (by omega)
    simp only [Nat.add_zero, e0, e1, e2]
    have hc : (224 + n / 4096) % 16 * 4096 + (128 + n / 64 % 64) % 64 * 64 + (128 + n % 64) % 64 = n := by omega
    rw [hc]
    rw [if_neg (by omega), if_neg (by
      simp only [Bool.and_eq_true, decide_eq_true_eq, beq_iff_eq]
      omega), if_pos (by
      simp only [Bool.and_eq_true, decide_eq_true_eq, beq_iff_eq]
      exact ⟨⟨by omega, g1.2, by omega⟩, g2.2, by omega⟩), if_pos (by
      simp only [Bool.and_eq_true, decide_eq_true_eq]
      exact ⟨by omega, hval⟩)]
    rfl
  · rw [if_neg c3] at h ⊢
    have g0 := get_drop s p 0 _ h (by simp)
    have g1 := get_drop s p 1 _ h (by simp)
    have g2 := get_drop s p 2 _ h (by simp)
    have g3 := get_drop s p 3 _ h (by simp)
    simp only [Nat.add_zero] at g0
    have e0 : (s.get! p).toNat = 240 + n / 262144 := by rw [g0.1]; exact u8v _ (by omega)
    have e1 : (s.get! (p + 1)).toNat = 128 + n / 4096 % 64 := by rw [g1.1]; exact u8v _ (by omega)
    have e2 : (s.get! (p + 2)).toNat = 128 + n / 64 % 64 := by rw [g2.1]; exact u8v _ (by omega)
    have e3 : (s.get! (p + 3)).toNat = 128 + n % 64 := by rw [g3.1]; exact u8v _ (by omega)
    simp only [Nat.add_zero, e0, e1, e2, e3]
    have hc : (240 + n / 262144) % 8 * 262144 + (128 + n / 4096 % 64) % 64 * 4096 + (128 + n / 64 % 64) % 64 * 64 + (128 + n % 64) % 64 = n := by omega
    rw [hc]
    rw [if_neg (by omega), if_neg (by
      simp only [Bool.and_eq_true, decide_eq_true_eq, beq_iff_eq]
      omega), if_neg (by
      simp only [Bool.and_eq_true, decide_eq_true_eq, beq_iff_eq]
      omega), if_pos (by
      simp only [Bool.and_eq_true, decide_eq_true_eq, beq_iff_eq]
      exact ⟨⟨⟨by omega, g1.2, by omega⟩, g2.2, by omega⟩, g3.2, by omega⟩), if_pos (by
      simp only [Bool.and_eq_true, decide_eq_true_eq]
      exact ⟨by omega, hval⟩)]
    rfl

end Go.Proofs.YtcpbljhogenjoaaDoor
