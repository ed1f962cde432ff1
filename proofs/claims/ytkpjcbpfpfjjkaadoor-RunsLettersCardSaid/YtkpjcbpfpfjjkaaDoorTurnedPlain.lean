/- A text of ASCII read from its end: its rows, turned. No walk in sight. -/
import Derived.Test.YtkpjcbpfpfjjkaaDoorRunsPlain
namespace Go.Proofs.YtkpjcbpfpfjjkaaDoor
set_option linter.unusedVariables false
set_option linter.unusedSimpArgs false
open Go Go.RowKit Go.Lib

def turned (s : ByteArray) : ByteArray := ⟨s.data.toList.reverse.toArray⟩

theorem turned_size (s : ByteArray) : (turned s).size = s.size := by
  rw [Lib.size_eq, Lib.size_eq]; simp [turned]

theorem turned_get (s : ByteArray) (x : Nat) (h : x < s.size) : (turned s).get! x = s.get! (s.size - 1 - x) := by
  rw [← Lib.getD_get!', ← Lib.getD_get!', List.getD_eq_getElem?_getD, List.getD_eq_getElem?_getD]
  have : (turned s).data.toList = s.data.toList.reverse := by simp [turned]
  rw [this, List.getElem?_reverse (by rw [← Lib.size_eq]; exact h), ← Lib.size_eq]

theorem leadN_all (s : ByteArray) (m : Int) (h0 : 0 ≤ m) (h1 : m < 128) : ∀ (k i : Nat), i + k ≤ s.size → (∀ x (h : x < k), ((s.get! (i + x)).toNat : Int) = m) → (i + k < s.size → ((s.get! (i + k)).toNat : Int) ≠ m) →
    leadN s (Utf8.encode m) i = k := by
  intro k
  induction k with
  | zero =>
    intro i hi _ he
    by_cases hlt : i < s.size
    · rw [leadN_enc s m h0 h1 i hlt, if_neg]
      have := he (by omega)
      rw [Nat.add_zero, get!_of_lt hlt] at this
      simpa using this
    · exact leadN_end _ _ _ (by omega)
  | succ k ih =>
    intro i hi hx he
    have h00 := hx 0 (by omega)
    rw [Nat.add_zero, get!_of_lt (by omega)] at h00
    rw [leadN_enc s m h0 h1 i (by omega), if_pos (by simpa using h00)]
    rw [ih (i + 1) (by omega) (fun x h => by have := hx (x + 1) (by omega); rw [show i + 1 + x = i + (x + 1) from by omega]; exact this) (fun h => by have := he (by omega); rw [show i + 1 + k = i + (k + 1) from by omega]; exact this)]

theorem flags_swap (low : Bool) (a b : Side) : flags low b a = ((flags low a b).2, (flags low a b).1) := by
  unfold flags; cases low <;> rfl

theorem rev_len (s : ByteArray) : (s.data.toList.reverse).length = s.size := by rw [List.length_reverse, ← Lib.size_eq]

theorem rev_take (s : ByteArray) (d : Nat) (h : d < s.size) : s.data.toList.reverse.take (d + 1) = s.data.toList.reverse.take d ++ [s[s.size - 1 - d]'(by omega)] := by
  rw [List.take_succ_eq_append_getElem (by rw [rev_len]; exact h), List.getElem_reverse]
  congr 2

theorem scan_turned (s : ByteArray) (hA : ∀ i, i < s.size → (s.get! i).toNat < 128) (n : Nat) (hn : n < s.size) (m : Int) (hm : (s[n].toNat : Int) = m) (h2 : m = 42 ∨ m = 95)
    (hp : 0 < n → ((s.get! (n - 1)).toNat : Int) ≠ m) :
    scanR (turned s) ((s.size - n - rowOf s n m : Nat) : Int) = ⟨m, (rowOf s n m : Nat), (flags (m == 95) (aheadOf s n) (behindOf s ((n : Int) + (rowOf s n m : Nat)))).2, (flags (m == 95) (aheadOf s n) (behindOf s ((n : Int) + (rowOf s n m : Nat)))).1, true⟩ := by
  obtain ⟨r1, r2, r3, r4⟩ := row_facts s n hn m hm (by omega) (by omega)
  generalize rowOf s n m = k at *
  have hz := turned_size s
  have hg := turned_get s
  generalize turned s = t at *
  have hrow : rowOf t (s.size - n - k) m = k := by
    rw [rowOf_eq]
    refine leadN_all t m (by omega) (by omega) k _ (by omega) (fun x hx => ?_) (fun he => ?_)
    · rw [hg _ (by omega), get!_of_lt (by omega)]
      exact r3 _ (by omega) (by omega) (by omega)
    · rw [hg _ (by omega), show s.size - 1 - (s.size - n - k + k) = n - 1 from by omega]
      exact hp (by omega)
  have hb : (t[s.size - n - k]'(by omega)).toNat = (s[n + k - 1]'(by omega)).toNat := by
    have := hg (s.size - n - k) (by omega)
    rw [get!_of_lt (by omega), get!_of_lt (by omega)] at this
    rw [this]; congr 2; omega
  have e1 := scanR_yes t (s.size - n - k) (by omega) m (by rw [hb]; exact r3 _ (by omega) (by omega) (by omega)) h2
  rw [e1, hrow]
  have ea : aheadOf t (s.size - n - k) = behindOf s ((n : Int) + (k : Nat)) := by
    rw [show (n : Int) + (k : Nat) = ((n + k : Nat) : Int) from by omega]
    by_cases he : n + k < s.size
    · rw [behind_ascii s _ he (hA _ he), ahead_ascii t _ (by omega) (by omega) (by rw [hg _ (by omega)]; exact hA _ (by omega)), hg _ (by omega), show s.size - 1 - (s.size - n - k - 1) = n + k from by omega]
    · rw [behind_no s _ (by omega), ahead_no t _ (by omega)]
  have eb : behindOf t (((s.size - n - k : Nat) : Int) + (k : Nat)) = aheadOf s n := by
    rw [show ((s.size - n - k : Nat) : Int) + (k : Nat) = ((s.size - n : Nat) : Int) from by omega]
    by_cases hq : 0 < n
    · rw [ahead_ascii s n (by omega) (by omega) (hA _ (by omega)), behind_ascii t _ (by omega) (by rw [hg _ (by omega)]; exact hA _ (by omega)), hg _ (by omega), show s.size - 1 - (s.size - n) = n - 1 from by omega]
    · rw [ahead_no s n hq, behind_no t _ (by omega)]
  rw [ea, eb, flags_swap]

end Go.Proofs.YtkpjcbpfpfjjkaaDoor
