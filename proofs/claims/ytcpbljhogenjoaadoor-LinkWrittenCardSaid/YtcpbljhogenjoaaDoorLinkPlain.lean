/- Plain: a text's tail answers what the text answers at its place. No program in sight. -/
import Derived.Test.YtcpbljhogenjoaaDoorLinkDef
namespace Go.Proofs.YtcpbljhogenjoaaDoor
set_option linter.unusedVariables false
set_option linter.unusedSimpArgs false
open Go Go.RowKit Go.Lib

theorem tail_byte (s : ByteArray) (a k : Nat) : byteU (s.extract a s.size) k = byteU s (a + k) := by
  unfold byteU
  rw [tail_data, List.getD_eq_getElem?_getD, List.getD_eq_getElem?_getD, List.getElem?_drop]

theorem tail_sz (s : ByteArray) (a : Nat) : (s.extract a s.size).size = s.size - a := by rw [Lib.tail_size]

theorem tail_ext (s : ByteArray) (a i j : Nat) (h : a ≤ s.size) (hj : j ≤ s.size - a) : (s.extract a s.size).extract i j = s.extract (a + i) (a + j) := by
  apply ba_ext
  rw [Lib.extract_data, tail_data, Lib.extract_data, List.drop_drop]
  congr 1; omega

theorem tail_esc (s : ByteArray) (a k : Nat) : escU (s.extract a s.size) k = escU s (a + k) := by
  unfold escU
  rw [tail_byte, tail_byte, tail_sz, show a + (k + 1) = a + k + 1 from rfl]
  have : decide (k + 1 < s.size - a) = decide (a + k + 1 < s.size) := by rw [decide_eq_decide]; omega
  rw [this]

theorem tail_step (s : ByteArray) (a k : Nat) : stepN (s.extract a s.size) k = stepN s (a + k) := by unfold stepN; rw [tail_esc]

theorem tail_up (s : ByteArray) (a : Nat) (p : UInt8 → Bool) (k : Nat) : a + upF (s.extract a s.size) p k = upF s p (a + k) := by
  generalize hn : s.size - (a + k) = n
  induction n using Nat.strongRecOn generalizing k with
  | ind n ih =>
    by_cases hk : a + k < s.size
    · have hk' : k < (s.extract a s.size).size := by rw [tail_sz]; omega
      cases hp : p (byteU s (a + k)) with
      | true => rw [upF_yes s p _ hk hp, upF_yes _ p k hk' (by rw [tail_byte]; exact hp)]
      | false =>
        rw [upF_no s p _ hk hp, upF_no _ p k hk' (by rw [tail_byte]; exact hp), tail_step]
        have := step_pos s (a + k)
        rw [ih (s.size - (a + (k + stepN s (a + k)))) (by omega) _ rfl, Nat.add_assoc]
    · rw [upF_end s p _ (by omega), upF_end _ p k (by rw [tail_sz]; omega)]

theorem tail_label (s : ByteArray) (a : Nat) (h : a ≤ s.size) : labelF (s.extract a s.size) 0 = labelF s a := by
  have hu := tail_up s a lstopU 1
  unfold labelF
  simp only [Nat.zero_add]
  rw [tail_byte, Nat.add_zero, ← hu, tail_sz]
  have hle : upF (s.extract a s.size) lstopU 1 ≤ s.size - a ∨ s.size - a < 1 := by
    by_cases h1 : 1 ≤ s.size - a
    · left; have := upF_le (s.extract a s.size) lstopU 1 (by rw [tail_sz]; exact h1); rw [tail_sz] at this; exact this
    · right; omega
  have h1 := upF_ge (s.extract a s.size) lstopU 1
  generalize upF (s.extract a s.size) lstopU 1 = e at *
  rw [tail_byte]
  have d1 : decide (0 < s.size - a) = decide (a < s.size) := by rw [decide_eq_decide]; omega
  have d2 : decide (e < s.size - a) = decide (a + e < s.size) := by rw [decide_eq_decide]; omega
  have d3 : decide (e - 0 ≤ 1000) = decide (a + e - a ≤ 1000) := by rw [decide_eq_decide]; omega
  rw [d1, d2, d3]
  by_cases hin : e ≤ s.size - a
  · rw [tail_ext s a 1 e h hin]
    have : e + 1 - 0 = a + e + 1 - a := by omega
    rw [this]
  · have : decide (a < s.size) = false := decide_eq_false (by omega)
    rw [this]; rfl

theorem tail_title (s : ByteArray) (a : Nat) (h : a ≤ s.size) : titleF (s.extract a s.size) 0 = titleF s a := by
  unfold titleF
  simp only [Nat.zero_add]
  rw [tail_byte, Nat.add_zero, tail_sz]
  have d1 : decide (0 < s.size - a) = decide (a < s.size) := by rw [decide_eq_decide]; omega
  rw [d1]
  split
  · rename_i hc
    have ha : a < s.size := by simp only [Bool.and_eq_true, decide_eq_true_eq] at hc; exact hc.1
    have hu := tail_up s a (tstopU (byteU s a)) 1
    have hle := upF_le (s.extract a s.size) (tstopU (byteU s a)) 1 (by rw [tail_sz]; omega)
    rw [tail_sz] at hle
    rw [← hu]
    generalize upF (s.extract a s.size) (tstopU (byteU s a)) 1 = e at *
    rw [tail_byte, tail_ext s a 1 e h hle]
    have d2 : decide (e < s.size - a) = decide (a + e < s.size) := by rw [decide_eq_decide]; omega
    have : e + 1 - 0 = a + e + 1 - a := by omega
    rw [d2, this]
  · rfl

theorem bareG_fuel (s : ByteArray) : ∀ (f g k o : Nat), s.size - k ≤ f → s.size - k ≤ g → bareG s f k o = bareG s g k o := by
  intro f
  induction f with
  | zero =>
    intro g k o hf _
    cases g with
    | zero => rfl
    | succ g =>
      have : decide (k < s.size) = false := decide_eq_false (by omega)
      simp only [bareG, this, Bool.false_and, Bool.false_eq_true, if_false]
  | succ f ih =>
    intro g k o hf hg
    cases g with
    | zero =>
      have : decide (k < s.size) = false := decide_eq_false (by omega)
      simp only [bareG, this, Bool.false_and, Bool.false_eq_true, if_false]
    | succ g =>
      simp only [bareG]
      have := step_pos s k
      rw [ih g (k + stepN s k) _ (by omega) (by omega)]

theorem tail_bareG (s : ByteArray) (a : Nat) : ∀ (f k o : Nat), bareG s f (a + k) o = (bareG (s.extract a s.size) f k o).map fun p => (a + p.1, p.2) := by
  intro f
  induction f with
  | zero => intro k o; rfl
  | succ f ih =>
    intro k o
    simp only [bareG]
    rw [tail_byte, tail_step, tail_sz, Nat.add_assoc, ih]
    have d2 : decide (k < s.size - a) = decide (a + k < s.size) := by rw [decide_eq_decide]; omega
    rw [d2]
    generalize (if byteU s (a + k) = 40 then o + 1 else if byteU s (a + k) = 41 then o - 1 else o) = q
    split
    · split <;> rfl
    · rfl

theorem bareG_bd (s : ByteArray) : ∀ (f k o e q : Nat), k ≤ s.size → bareG s f k o = some (e, q) → k ≤ e ∧ e ≤ s.size := by
  intro f
  induction f with
  | zero => intro k o e q hk h; simp only [bareG, Option.some.injEq, Prod.mk.injEq] at h; omega
  | succ f ih =>
    intro k o e q hk h
    simp only [bareG] at h
    generalize (if byteU s k = 40 then o + 1 else if byteU s k = 41 then o - 1 else o) = q at h
    split at h
    · rename_i hc
      have hk2 : k < s.size := by simp only [Bool.and_eq_true, decide_eq_true_eq] at hc; exact hc.1
      have h1 := step_le s k hk2
      have h2 := step_pos s k
      split at h
      · cases h
      · have := ih _ _ _ _ h1 h; omega
    · simp only [Option.some.injEq, Prod.mk.injEq] at h; omega

theorem bareF_bd (s : ByteArray) (a e : Nat) (ha : a ≤ s.size) (h : bareF s a = some e) : a < e ∧ e ≤ s.size := by
  unfold bareF at h
  cases hb : bareG s (s.size - a) a 0 with
  | none => rw [hb] at h; cases h
  | some p =>
    obtain ⟨k, o⟩ := p
    rw [hb] at h
    simp only at h
    split at h
    · rename_i hc
      simp only [Bool.and_eq_true, decide_eq_true_eq] at hc
      have := bareG_bd s _ _ _ _ _ ha hb
      cases h
      omega
    · cases h

theorem bareF_out (s : ByteArray) (a : Nat) (h : s.size ≤ a) : bareF s a = none := by
  unfold bareF
  rw [Nat.sub_eq_zero_of_le h]
  simp [bareG]

theorem tail_bareF (s : ByteArray) (a : Nat) : bareF s a = (bareF (s.extract a s.size) 0).map fun e => a + e := by
  unfold bareF
  have := tail_bareG s a (s.size - a) 0 0
  rw [Nat.add_zero] at this
  rw [this, tail_sz, Nat.sub_zero]
  cases bareG (s.extract a s.size) (s.size - a) 0 0 with
  | none => rfl
  | some p =>
    obtain ⟨k, o⟩ := p
    simp only [Option.map_some]
    have d : decide (a < a + k) = decide (0 < k) := by rw [decide_eq_decide]; omega
    rw [d]
    split <;> rfl

theorem tail_dest (s : ByteArray) (a : Nat) (h : a ≤ s.size) : destF (s.extract a s.size) 0 = destF s a := by
  unfold destF
  simp only [Nat.zero_add]
  rw [tail_byte, Nat.add_zero, tail_sz]
  have d1 : decide (0 < s.size - a) = decide (a < s.size) := by rw [decide_eq_decide]; omega
  rw [d1]
  split
  · rename_i hc
    have ha : a < s.size := by simp only [Bool.and_eq_true, decide_eq_true_eq] at hc; exact hc.1
    have hu := tail_up s a angU 1
    have hle := upF_le (s.extract a s.size) angU 1 (by rw [tail_sz]; omega)
    rw [tail_sz] at hle
    rw [← hu]
    generalize upF (s.extract a s.size) angU 1 = e at *
    rw [tail_byte, tail_ext s a 1 e h hle]
    have d2 : decide (e < s.size - a) = decide (a + e < s.size) := by rw [decide_eq_decide]; omega
    have : e + 1 - 0 = a + e + 1 - a := by omega
    rw [d2, this]
  · have hb := tail_bareF s a
    rw [hb]
    cases hc : bareF (s.extract a s.size) 0 with
    | none => rfl
    | some e =>
      have := bareF_bd _ _ _ (Nat.zero_le _) hc
      rw [tail_sz] at this
      simp only [Option.map_some]
      rw [tail_ext s a 0 e h (by omega), Nat.add_zero]
      have : e - 0 = a + e - a := by omega
      rw [this]

end Go.Proofs.YtcpbljhogenjoaaDoor
