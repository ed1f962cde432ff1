/- Walks: escape.front, char. -/
import Derived.Test.YtcpbljhogenjoaaDoorEntMap
import Derived.Test.YtcpbljhogenjoaaDoorCutEscape
import Derived.Test.YtcpbljhogenjoaaDoorClass
import Derived.Test.YtcpbljhogenjoaaDoorLinkB
import Derived.Laws.Runes
import Derived.Lib.MinMax
import Derived.Lib.Small
namespace Go.Proofs.YtcpbljhogenjoaaDoor
set_option linter.unusedVariables false
set_option linter.unusedSimpArgs false
open Go Go.RowKit Go.Shelf Go.Lib

set_option maxRecDepth 100000 in
theorem front_calls (s set : ByteArray) (m : Nat) (w : World) (hs : s.size ≤ 1000000) (ht : set.size ≤ 1000000) (hA : Ascii set.data.toList) (hm : m ≤ 1000) :
    Calls Tryd.prog 42 #[.string s, .string set, .int .i64 (m : Nat)] w fun e w' => e = .returned (.string (s.extract 0 (min (lead s set) m))) ∧ Below w.heap.size w w' := by
  have hc := fun w => escapeCutLeft_calls s set w hs ht hA
  have hl := lead_le s set
  have hr := row_eq s set hs
  have hr2 : IntKind.i64.wrap ((s.size : Int) - ((cutL s set).size : Nat)) = (lead s set : Nat) := by rw [cutL_size, IntWalk.i64_in _ (by omega)]; omega
  generalize cutL s set = t at *
  generalize lead s set = n at *
  have i0 : (0 : Int) ≤ (n : Int) := by omega
  have i1 : (n : Int) ≤ (s.size : Int) := by omega
  have hmin : (min (n : Int) (m : Int)) = ((min n m : Nat) : Int) := by omega
  have i2 : (0 : Int) ≤ ((min n m : Nat) : Int) := by omega
  have i3 : ((min n m : Nat) : Int) ≤ (s.size : Int) := by omega
  generalize min n m = k at *
  go_enter Tryd.func42, Tryd.ntmps42
  go_wp2_with fail
  refine (hc _).mono ?_
  rintro e w1 ⟨rfl, hB⟩
  go_wp2_with fail
  go_ret
  exact ⟨rfl, hB⟩

theorem charF_bad (n : Nat) (h : n = 0 ∨ 55296 ≤ n ∧ n < 57344 ∨ 1114111 < n) : charF n = ⟨#[239, 191, 189]⟩ := by
  unfold charF; rw [if_pos h]; decide +kernel

theorem charF_ok (n : Nat) (h : ¬ (n = 0 ∨ 55296 ≤ n ∧ n < 57344 ∨ 1114111 < n)) : charF n = Utf8.encode (n : Int) := by
  unfold charF; rw [if_neg h]

set_option maxRecDepth 100000 in
theorem char_calls (n : Nat) (w : World) (hn : n ≤ 300000000) :
    Calls Tryd.prog 44 #[.int .i64 (n : Int)] w fun e w' => e = .returned (.string (charF n)) ∧ w' = w := by
  have e1 : IntKind.i32.wrap (n : Int) = (n : Int) := IntWalk.i32_in _ (by omega)
  by_cases h0 : n = 0
  · have hr : Hid (charF n = ⟨#[239, 191, 189]⟩) := charF_bad n (Or.inl h0)
    have d0 : ((n : Int) == 0) = true := beq_iff_eq.2 (by omega)
    clear h0
    go_enter Tryd.func44, Tryd.ntmps44
    go_wp2_with fail
    go_ret
    exact ⟨ret_str (by rw [hr.out]), rfl⟩
  · have d0 : ((n : Int) == 0) = false := beq_eq_false_iff_ne.2 (by omega)
    by_cases h1 : 1114111 < n
    · have hr : Hid (charF n = ⟨#[239, 191, 189]⟩) := charF_bad n (Or.inr (Or.inr h1))
      have d1 : (1114111 : Int) < (n : Int) := by omega
      clear h0
      go_enter Tryd.func44, Tryd.ntmps44
      go_wp2_with fail
      go_ret
      exact ⟨ret_str (by rw [hr.out]), rfl⟩
    · have d1 : (n : Int) ≤ 1114111 := by omega
      have hv := fun w => Tryd.utf8_ValidRune (n : Int) w
      by_cases h2 : 55296 ≤ n ∧ n < 57344
      · have hr : Hid (charF n = ⟨#[239, 191, 189]⟩) := charF_bad n (Or.inr (Or.inl h2))
        have hq : Lib.validRune (n : Int) = false := by unfold Lib.validRune; exact decide_eq_false (by omega)
        rw [hq] at hv
        clear h0 h2 hq
        go_enter Tryd.func44, Tryd.ntmps44
        go_wp2_with fail
        refine (hv _).mono ?_
        rintro e w1 ⟨rfl, rfl⟩
        go_wp2_with fail
        go_ret
        exact ⟨ret_str (by rw [hr.out]), rfl⟩
      · have hr : Hid (charF n = Utf8.encode (n : Int)) := charF_ok n (by omega)
        have hq : Lib.validRune (n : Int) = true := by unfold Lib.validRune; exact decide_eq_true (by omega)
        have hcv : ∀ w : World, (convert 21 9 (.int .i32 (n : Int))).run Tryd.prog w = .ok (.string (Utf8.encode (n : Int))) w := fun w => run_convert_int_string w _ _ .i32 _ (by rw [Tryd.underlying21]; rfl) Tryd.underlying9
        rw [hq] at hv
        generalize Utf8.encode (n : Int) = E at *
        have d2 : decide ((1114111 : Int) < (n : Int)) = false := decide_eq_false (by omega)
        clear h0 h2 hq h1 hn
        generalize (n : Int) = r at *
        clear d1
        go_enter Tryd.func44, Tryd.ntmps44
        go_wp2_with fail
        refine (hv _).mono ?_
        rintro e w1 ⟨rfl, rfl⟩
        go_wp2_with fail
        go_ret
        exact ⟨ret_str (by rw [hr.out]), rfl⟩

end Go.Proofs.YtcpbljhogenjoaaDoor
