/- Walks: the references Blank, Plain, Mark. -/
import Derived.Test.YtkpjcbpfpfjjkaaDoorClass
import Derived.Handy
import Derived.BigQuiet
import Derived.BigGuard
namespace Go.Proofs.YtkpjcbpfpfjjkaaDoor
set_option linter.unusedVariables false
set_option linter.unusedSimpArgs false
open Go Go.RowKit Go.Lib

theorem blank_iff (r : Int) : blankB r = true ↔ (9 ≤ r ∧ r ≤ 10 ∨ 12 ≤ r ∧ r ≤ 13 ∨ r = 32 ∨ r = 160 ∨ r = 5760 ∨ 8192 ≤ r ∧ r ≤ 8202 ∨ r = 8239 ∨ r = 8287 ∨ r = 12288) := by
  simp [blankB, withinB, blankL]; omega
theorem plain_iff (r : Int) : plainB r = true ↔ (33 ≤ r ∧ r ≤ 47 ∨ 58 ≤ r ∧ r ≤ 64 ∨ 91 ≤ r ∧ r ≤ 96 ∨ 123 ≤ r ∧ r ≤ 126) := by
  simp [plainB, withinB, plainL]
theorem mark1_iff (r : Int) : withinB r mark1L = true ↔ (161 ≤ r ∧ r ≤ 169 ∨ r = 171 ∨ r = 172 ∨ 174 ≤ r ∧ r ≤ 177 ∨ r = 180 ∨ 182 ≤ r ∧ r ≤ 184 ∨ r = 187 ∨ r = 191 ∨ r = 215 ∨ r = 247) := by
  simp [withinB, mark1L]; omega
theorem mark2_iff (r : Int) : withinB r mark2L = true ↔ (8208 ≤ r ∧ r ≤ 8231 ∨ 8240 ≤ r ∧ r ≤ 8286 ∨ 8352 ≤ r ∧ r ≤ 8384 ∨ 8592 ≤ r ∧ r ≤ 8703 ∨ 12289 ≤ r ∧ r ≤ 12291 ∨ 12296 ≤ r ∧ r ≤ 12305) := by
  simp [withinB, mark2L]
theorem mark_far_iff (r : Int) (h : r < 0 ∨ 128 ≤ r) : markB r = true ↔ (withinB r mark1L = true ∨ withinB r mark2L = true) := by
  unfold markB; rw [if_neg (by omega)]; simp

set_option maxHeartbeats 1000000 in
theorem refBlank_calls (r : Int) (w : World) :
    Calls Tryd.prog 17 #[.int .i64 r] w fun e w' => e = .returned (.bool (blankB r)) ∧ Below w.heap.size w w' := by
  go_enter Tryd.func17, Tryd.ntmps17
  go_wp2_with fail
  all_goals
    go_ret
    exact ⟨ret_bool (by rw [Bool.eq_iff_iff, blank_iff]; simp <;> omega), Below.refl _ _⟩

set_option maxHeartbeats 1000000 in
theorem refPlain_calls (r : Int) (h0 : 0 ≤ r) (h1 : r ≤ 255) (w : World) :
    Calls Tryd.prog 22 #[.int .u8 r] w fun e w' => e = .returned (.bool (plainB r)) ∧ Below w.heap.size w w' := by
  go_enter Tryd.func22, Tryd.ntmps22
  go_wp2_with fail
  all_goals
    go_ret
    exact ⟨ret_bool (by rw [Bool.eq_iff_iff, plain_iff]; simp <;> omega), Below.refl _ _⟩

set_option maxHeartbeats 1000000 in
theorem refMark_near (r : Int) (h0 : 0 ≤ r) (h1 : r < 128) (w : World) :
    Calls Tryd.prog 18 #[.int .i64 r] w fun e w' => e = .returned (.bool (markB r)) ∧ Below w.heap.size w w' := by
  have hm : Hid (markB r = plainB r) := by show _ = _; unfold markB; rw [if_pos ⟨h0, h1⟩]
  have e8 := IntWalk.u8_in r (by omega)
  go_enter Tryd.func18, Tryd.ntmps18
  go_wp2_with fail
  refine (refPlain_calls r h0 (by omega) w).mono ?_
  rintro e w1 ⟨rfl, hb⟩
  go_wp2_with fail
  go_ret
  exact ⟨by rw [hm.out]; rfl, hb⟩

set_option maxHeartbeats 8000000 in
set_option maxRecDepth 100000 in
theorem refMark_far (r : Int) (h0 : r < 0 ∨ 128 ≤ r) (w : World) :
    Calls Tryd.prog 18 #[.int .i64 r] w fun e w' => e = .returned (.bool (markB r)) ∧ Below w.heap.size w w' := by
  rcases h0 with h0 | h0
  · go_enter Tryd.func18, Tryd.ntmps18
    go_wp2_with fail
    all_goals
      go_ret
      exact ⟨ret_bool (by rw [Bool.eq_iff_iff, mark_far_iff _ (by omega), mark1_iff, mark2_iff]; (try simp only [beq_iff_eq, beq_eq_false_iff_ne, ne_eq] at *); simp; first | done | omega), Below.refl _ _⟩
  · go_enter Tryd.func18, Tryd.ntmps18
    go_wp2_with fail
    all_goals
      go_ret
      exact ⟨ret_bool (by rw [Bool.eq_iff_iff, mark_far_iff _ (by omega), mark1_iff, mark2_iff]; (try simp only [beq_iff_eq, beq_eq_false_iff_ne, ne_eq] at *); simp; first | done | omega), Below.refl _ _⟩

theorem refMark_calls (r : Int) (w : World) :
    Calls Tryd.prog 18 #[.int .i64 r] w fun e w' => e = .returned (.bool (markB r)) ∧ Below w.heap.size w w' := by
  by_cases h : 0 ≤ r ∧ r < 128
  · exact refMark_near r h.1 h.2 w
  · exact refMark_far r (by omega) w

end Go.Proofs.YtkpjcbpfpfjjkaaDoor
