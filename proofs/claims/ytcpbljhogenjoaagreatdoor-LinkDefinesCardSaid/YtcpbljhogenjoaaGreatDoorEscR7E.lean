/- Walks: escape's reference: char, Entity. -/
import Derived.Test.YtcpbljhogenjoaaGreatDoorEscBytes
import Derived.Test.YtcpbljhogenjoaaGreatDoorAppend
import Derived.Deep.QuietTactic
import Derived.Deep.DeepCutAuto
import Derived.Deep.CutBlock
namespace Go.Proofs.YtcpbljhogenjoaaGreatDoor
set_option linter.unusedVariables false
set_option linter.unusedSimpArgs false
open Go Go.RowKit Go.Shelf Go.Lib

set_option maxHeartbeats 2000000 in
set_option maxRecDepth 100000 in
theorem r7char_calls (n : Nat) (w : World) :
    Calls Tryz.prog 70 #[.int .i64 (n : Int)] w fun e w' => e = .returned (.string (charF n)) ∧ Below w.heap.size w w' := by
  have hb1 := fun w => r3Bytes_calls 65533 w (by decide) (by decide)
  by_cases h0 : n = 0 ∨ 55296 ≤ n ∧ n < 57344 ∨ 1114111 < n
  · have hr : Hid (charF n = ⟨(Utf8.encode 65533).data.toList.toArray⟩) := by show _ = _; unfold charF; rw [if_pos h0]; rfl
    have hb : ∀ w, Calls Tryz.prog 78 #[.int .i64 65533] w fun e w' => (∃ v, e = .returned v ∧ Own w.heap.size v (Utf8.encode 65533).data.toList w') ∧ Below w.heap.size w w' := hb1
    clear hb1
    generalize (Utf8.encode 65533).data.toList = l at *
    have hc : ((n : Int) == 0) = true ∨ ((n : Int) == 0) = false ∧ decide ((55296 : Int) ≤ n) = true ∧ decide ((n : Int) < 57344) = true ∨ ((n : Int) == 0) = false ∧ decide ((55296 : Int) ≤ n) = true ∧ decide ((n : Int) < 57344) = false ∧ decide ((1114111 : Int) < n) = true := by
      rcases h0 with h | h | h
      · exact Or.inl (beq_iff_eq.2 (by omega))
      · exact Or.inr (Or.inl ⟨beq_eq_false_iff_ne.2 (by omega), decide_eq_true (by omega), decide_eq_true (by omega)⟩)
      · exact Or.inr (Or.inr ⟨beq_eq_false_iff_ne.2 (by omega), decide_eq_true (by omega), decide_eq_false (by omega), decide_eq_true (by omega)⟩)
    clear h0
    generalize (n : Int) = r at *
    rcases hc with d0 | ⟨d0, d1, d2⟩ | ⟨d0, d1, d2, d3⟩
    all_goals
      go_enter Tryz.func70, Tryz.ntmps70
      go_wp2_with fail
      refine (hb _).mono ?_
      rintro e w1 ⟨⟨v, rfl, ho⟩, hB⟩
      have hcv := own_text ho
      go_wp2_with fail
      go_ret
      exact ⟨ret_str (by rw [hr.out]), hB⟩
  · have hr : Hid (charF n = ⟨(Utf8.encode (n : Int)).data.toList.toArray⟩) := by show _ = _; unfold charF; rw [if_neg h0]
    have hb := fun w => r3Bytes_calls n w (by omega) (by omega)
    clear hb1
    generalize (Utf8.encode (n : Int)).data.toList = l at *
    have d0 : ((n : Int) == 0) = false := beq_eq_false_iff_ne.2 (by omega)
    have d3 : decide ((1114111 : Int) < n) = false := decide_eq_false (by omega)
    have hc : decide ((55296 : Int) ≤ n) = false ∨ decide ((55296 : Int) ≤ n) = true ∧ decide ((n : Int) < 57344) = false := by
      by_cases h : 55296 ≤ n
      · exact Or.inr ⟨decide_eq_true (by omega), decide_eq_false (by omega)⟩
      · exact Or.inl (decide_eq_false (by omega))
    clear h0
    generalize (n : Int) = r at *
    rcases hc with d1 | ⟨d1, d2⟩
    all_goals
      go_enter Tryz.func70, Tryz.ntmps70
      go_wp2_with fail
      refine (hb _).mono ?_
      rintro e w1 ⟨⟨v, rfl, ho⟩, hB⟩
      have hcv := own_text ho
      go_wp2_with fail
      go_ret
      exact ⟨ret_str (by rw [hr.out]), hB⟩

theorem entNum_nil : entNum [] = none := by decide +kernel

theorem ent_short (s : ByteArray) (n : Nat) (h : s.size < n + 3) : entF s n = (⟨#[]⟩, 0) := by
  unfold entF
  split
  · split
    · rename_i h2
      have hz : (numF s (n + 2)).2 = 0 := by
        unfold numF
        have : decide (atOf (byteU s (n + 2) == 120 || byteU s (n + 2) == 88) (n + 2) + numN s (byteU s (n + 2) == 120 || byteU s (n + 2) == 88) (atOf (byteU s (n + 2) == 120 || byteU s (n + 2) == 88) (n + 2)) < s.size) = false := by
          refine decide_eq_false ?_
          have : n + 2 ≤ atOf (byteU s (n + 2) == 120 || byteU s (n + 2) == 88) (n + 2) := by unfold atOf; split <;> omega
          omega
        simp only [this, Bool.false_and, Bool.and_false, Bool.false_eq_true, if_false]
      rw [if_pos hz]
    · simp only []
      by_cases hm : min (leadN s wordT (n + 1)) 8 = 0
      · have he : (s.extract (n + 1) (n + 1 + min (leadN s wordT (n + 1)) 8)).data.toList = [] := by rw [hm, Lib.extract_data]; simp
        rw [he, entNum_nil]
      · have : decide (n + 1 + min (leadN s wordT (n + 1)) 8 < s.size) = false := decide_eq_false (by omega)
        rw [this]
        split <;> rfl
  · rfl

set_option maxHeartbeats 2000000 in
set_option maxRecDepth 100000 in
theorem r7Entity_no (s : ByteArray) (n : Nat) (hn : n < s.size) (w : World) (hs : s.size ≤ 1000000) (h : (s[n] == 38) = false ∨ (s[n] == 38) = true ∧ s.size < n + 3) :
    Calls Tryz.prog 46 #[.string s, .int .i64 (n : Nat)] w fun e w' => e = .returned (.tuple #[.string (entF s n).1, .int .i64 ((entF s n).2 : Nat)]) ∧ Below w.heap.size w w' := by
  have j0 : (0 : Int) ≤ (n : Int) := by omega
  have j1 : (n : Int) < (s.size : Int) := by omega
  have d0 : decide ((n : Int) < 0) = false := decide_eq_false (by omega)
  have d1 : decide ((s.size : Int) ≤ (n : Int)) = false := decide_eq_false (by omega)
  have d1' : decide (s.size ≤ n) = false := decide_eq_false (by omega)
  have ub : ((s[n].toNat : Int) != 38) = !(s[n] == 38) := nb s[n] 38
  rcases h with h | ⟨h, h3⟩
  · have hr : Hid (entF s n = (⟨#[]⟩, 0)) := ent_no s n (by rw [byteU_in s n hn, h]; simp)
    rw [h] at ub
    simp only [Bool.not_true, Bool.not_false] at ub
    go_enter Tryz.func46, Tryz.ntmps46
    go_wp2_with fail
    go_ret2
    exact ⟨ret_si (by rw [hr.out]) (by rw [hr.out]; rfl), Below.refl _ _⟩
  · have hr : Hid (entF s n = (⟨#[]⟩, 0)) := ent_short s n h3
    rw [h] at ub
    simp only [Bool.not_true, Bool.not_false] at ub
    have e1 : IntKind.i64.wrap ((s.size : Int) - (n : Int)) = (s.size : Int) - (n : Int) := IntWalk.i64_in _ (by omega)
    have d3 : decide ((s.size : Int) - (n : Int) < 3) = true := decide_eq_true (by omega)
    go_enter Tryz.func46, Tryz.ntmps46
    go_wp2_with fail
    go_ret2
    exact ⟨ret_si (by rw [hr.out]) (by rw [hr.out]; rfl), Below.refl _ _⟩

end Go.Proofs.YtcpbljhogenjoaaGreatDoor
