/- Walks: the references Blank, Plain, Mark. -/
import Derived.Test.YtcpbljhogenjoaaGreatDoorClass
import Derived.Handy
import Derived.BigQuiet
import Derived.BigGuard
namespace Go.Proofs.YtcpbljhogenjoaaGreatDoor
set_option linter.unusedVariables false
set_option linter.unusedSimpArgs false
open Go Go.RowKit Go.Lib

theorem blank_iff (r : Int) : blankB r = true ↔ (9 ≤ r ∧ r ≤ 10 ∨ 12 ≤ r ∧ r ≤ 13 ∨ r = 32 ∨ r = 160 ∨ r = 5760 ∨ 8192 ≤ r ∧ r ≤ 8202 ∨ r = 8239 ∨ r = 8287 ∨ r = 12288) := by
  simp [blankB, withinB, blankL]; omega
theorem plain_iff (r : Int) : plainB r = true ↔ (33 ≤ r ∧ r ≤ 47 ∨ 58 ≤ r ∧ r ≤ 64 ∨ 91 ≤ r ∧ r ≤ 96 ∨ 123 ≤ r ∧ r ≤ 126) := by
  simp [plainB, withinB, plainL]
theorem mark1_iff (r : Int) : withinB r mark1L = true ↔ (161 ≤ r ∧ r ≤ 169 ∨ r = 171 ∨ r = 172 ∨ 174 ≤ r ∧ r ≤ 177 ∨ r = 180 ∨ 182 ≤ r ∧ r ≤ 184 ∨ r = 187 ∨ r = 191 ∨ r = 215 ∨ r = 247) := by
  simp [withinB, mark1L]; omega
theorem mark2_iff (r : Int) : withinB r mark2L = true ↔ (8208 ≤ r ∧ r ≤ 8231 ∨ 8240 ≤ r ∧ r ≤ 8286 ∨ 8352 ≤ r ∧ r ≤ 8384 ∨ 8592 ≤ r ∧ r ≤ 8703 ∨ 12289 ≤ r ∧ r ≤ 12291 ∨ 12296 ≤ r ∧ r ≤ 12305) := by
  simp [withinB, mark2L]
theorem mark_far_iff (r : Int) (h : r < 0 ∨ 128 ≤ r) : markB r = true ↔ (withinB r mark1L = true ∨ withinB r mark2L = true) := by
  unfold markB; rw [if_neg (by omega)]; simp

set_option maxHeartbeats 1000000 in
theorem refBlank_calls (r : Int) (w : World) :
    Calls Tryz.prog 55 #[.int .i64 r] w fun e w' => e = .returned (.bool (blankB r)) ∧ Below w.heap.size w w' := by
  go_enter Tryz.func55, Tryz.ntmps55
  go_wp2_with fail
  all_goals
    go_ret
    exact ⟨ret_bool (by rw [Bool.eq_iff_iff, blank_iff]; simp <;> omega), Below.refl _ _⟩

set_option maxHeartbeats 1000000 in
theorem refPlain_calls (r : Int) (h0 : 0 ≤ r) (h1 : r ≤ 255) (w : World) :
    Calls Tryz.prog 40 #[.int .u8 r] w fun e w' => e = .returned (.bool (plainB r)) ∧ Below w.heap.size w w' := by
  go_enter Tryz.func40, Tryz.ntmps40
  go_wp2_with fail
  all_goals
    go_ret
    exact ⟨ret_bool (by rw [Bool.eq_iff_iff, plain_iff]; simp <;> omega), Below.refl _ _⟩

end Go.Proofs.YtcpbljhogenjoaaGreatDoor
