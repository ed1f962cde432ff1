/- Walks: the reference's fold, Fold. -/
import Derived.Test.YtcpbljhogenjoaaGreatDoorFold2
import Derived.Test.YtcpbljhogenjoaaGreatDoorEscBytes
import Derived.Test.YtcpbljhogenjoaaGreatDoorAppend
import Derived.Test.YtcpbljhogenjoaaGreatDoorRefRune
import Derived.Test.YtcpbljhogenjoaaGreatDoorRef
import Derived.Lib.QuoteLoop
import Derived.Deep.LoopGhost
namespace Go.Proofs.YtcpbljhogenjoaaGreatDoor
set_option linter.unusedVariables false
set_option linter.unusedSimpArgs false
open Go Go.RowKit Go.Shelf Go.Lib

theorem up_iff (r : Int) : withinB r upL = true ↔ (65 ≤ r ∧ r ≤ 90 ∨ 192 ≤ r ∧ r ≤ 222 ∨ 913 ≤ r ∧ r ≤ 939 ∨ 1040 ≤ r ∧ r ≤ 1071) := by
  unfold withinB upL; simp
theorem up2_iff (r : Int) : withinB r up2L = true ↔ (1024 ≤ r ∧ r ≤ 1039) := by
  unfold withinB up2L; simp

theorem foldR_1 (r : Int) (h : 65 ≤ r ∧ r ≤ 90 ∨ 192 ≤ r ∧ r ≤ 222 ∧ r ≠ 215 ∨ 913 ≤ r ∧ r ≤ 939 ∧ r ≠ 930 ∨ 1040 ≤ r ∧ r ≤ 1071) : foldR r = Utf8.encode (r + 32) := by
  have : withinB r upL = true := (up_iff r).2 (by omega)
  unfold foldR
  rw [if_neg (by omega)]
  exact if_pos this
theorem foldR_2 (r : Int) (h : 1024 ≤ r ∧ r ≤ 1039) : foldR r = Utf8.encode (r + 80) := by
  have h1 : ¬ withinB r upL = true := fun h2 => by have := (up_iff r).1 h2; omega
  have h2 : withinB r up2L = true := (up2_iff r).2 h
  unfold foldR
  rw [if_neg (by omega)]
  exact (if_neg h1).trans (if_pos h2)
theorem foldR_3 (r : Int) (h : r = 223 ∨ r = 7838) : foldR r = ⟨#[115, 115]⟩ := by
  have h1 : ¬ withinB r upL = true := fun h2 => by have := (up_iff r).1 h2; omega
  have h2 : ¬ withinB r up2L = true := fun h2 => by have := (up2_iff r).1 h2; omega
  unfold foldR
  rw [if_neg (by omega)]
  exact (if_neg h1).trans ((if_neg h2).trans (if_pos h))
theorem foldR_4 (r : Int) (h1 : ¬ (65 ≤ r ∧ r ≤ 90 ∨ 192 ≤ r ∧ r ≤ 222 ∧ r ≠ 215 ∨ 913 ≤ r ∧ r ≤ 939 ∧ r ≠ 930 ∨ 1040 ≤ r ∧ r ≤ 1071)) (h2 : ¬ (1024 ≤ r ∧ r ≤ 1039)) (h3 : ¬ (r = 223 ∨ r = 7838)) : foldR r = Utf8.encode r := by
  unfold foldR
  by_cases h0 : r = 215 ∨ r = 930
  · rw [if_pos h0]
  · rw [if_neg h0]
    have n1 : ¬ withinB r upL = true := fun h => by have := (up_iff r).1 h; omega
    have n2 : ¬ withinB r up2L = true := fun h => by have := (up2_iff r).1 h; omega
    exact (if_neg n1).trans ((if_neg n2).trans (if_neg h3))

theorem bytes_int (r : Int) (h0 : 0 ≤ r) (hv : ¬ (55296 ≤ r ∧ r < 57344)) (h : r ≤ 1114111) (w : World) :
    Calls Tryz.prog 78 #[.int .i64 r] w fun e w' => (∃ v, e = .returned v ∧ Own w.heap.size v (Utf8.encode r).data.toList w') ∧ Below w.heap.size w w' := by
  obtain ⟨n, rfl⟩ : ∃ n : Nat, r = n := ⟨r.toNat, by omega⟩
  exact r3Bytes_calls n w (by omega) (by omega)

set_option maxHeartbeats 8000000 in
set_option maxRecDepth 100000 in
theorem r3f_0 (r : Int) (h0 : 0 ≤ r) (h1 : r ≤ 64) (hv : ¬ (55296 ≤ r ∧ r < 57344)) (w : World) :
    Calls Tryz.prog 56 #[.int .i64 r] w fun e w' => (∃ v, e = .returned v ∧ Own w.heap.size v (foldR r).data.toList w') ∧ Below w.heap.size w w' := by
  rw [foldR_4 r (by omega) (by omega) (by omega)]
  have f0 : decide ((65 : Int) ≤ r) = false := decide_eq_false (by omega)
  have f1 : decide (r ≤ (90 : Int)) = true := decide_eq_true (by omega)
  have f2 : decide ((192 : Int) ≤ r) = false := decide_eq_false (by omega)
  have f3 : decide (r ≤ (222 : Int)) = true := decide_eq_true (by omega)
  have f4 : (r != 215) = true := by rw [bne, show (r == 215) = false from beq_eq_false_iff_ne.2 (by omega)]; rfl
  have f5 : decide ((913 : Int) ≤ r) = false := decide_eq_false (by omega)
  have f6 : decide (r ≤ (939 : Int)) = true := decide_eq_true (by omega)
  have f7 : (r != 930) = true := by rw [bne, show (r == 930) = false from beq_eq_false_iff_ne.2 (by omega)]; rfl
  have f8 : decide ((1040 : Int) ≤ r) = false := decide_eq_false (by omega)
  have f9 : decide (r ≤ (1071 : Int)) = true := decide_eq_true (by omega)
  have f10 : decide ((1024 : Int) ≤ r) = false := decide_eq_false (by omega)
  have f11 : decide (r ≤ (1039 : Int)) = true := decide_eq_true (by omega)
  have f12 : (r == 223) = false := beq_eq_false_iff_ne.2 (by omega)
  have f13 : (r == 7838) = false := beq_eq_false_iff_ne.2 (by omega)
  have hb := fun w => bytes_int r (by omega) (by omega) (by omega) w
  generalize (Utf8.encode r).data.toList = l at *
  clear h0 h1 hv
  go_enter Tryz.func56, Tryz.ntmps56
  go_wp2_with fail
  refine (hb _).mono ?_
  rintro e w1 ⟨⟨v, rfl, ho⟩, hB⟩
  go_wp2_with fail
  go_ret
  exact ⟨⟨_, rfl, ho⟩, hB⟩

set_option maxHeartbeats 8000000 in
set_option maxRecDepth 100000 in
theorem r3f_1 (r : Int) (h0 : 65 ≤ r) (h1 : r ≤ 90) (hv : ¬ (55296 ≤ r ∧ r < 57344)) (w : World) :
    Calls Tryz.prog 56 #[.int .i64 r] w fun e w' => (∃ v, e = .returned v ∧ Own w.heap.size v (foldR r).data.toList w') ∧ Below w.heap.size w w' := by
  rw [foldR_1 r (by omega)]
  have f0 : decide ((65 : Int) ≤ r) = true := decide_eq_true (by omega)
  have f1 : decide (r ≤ (90 : Int)) = true := decide_eq_true (by omega)
  have f2 : decide ((192 : Int) ≤ r) = false := decide_eq_false (by omega)
  have f3 : decide (r ≤ (222 : Int)) = true := decide_eq_true (by omega)
  have f4 : (r != 215) = true := by rw [bne, show (r == 215) = false from beq_eq_false_iff_ne.2 (by omega)]; rfl
  have f5 : decide ((913 : Int) ≤ r) = false := decide_eq_false (by omega)
  have f6 : decide (r ≤ (939 : Int)) = true := decide_eq_true (by omega)
  have f7 : (r != 930) = true := by rw [bne, show (r == 930) = false from beq_eq_false_iff_ne.2 (by omega)]; rfl
  have f8 : decide ((1040 : Int) ≤ r) = false := decide_eq_false (by omega)
  have f9 : decide (r ≤ (1071 : Int)) = true := decide_eq_true (by omega)
  have f10 : decide ((1024 : Int) ≤ r) = false := decide_eq_false (by omega)
  have f11 : decide (r ≤ (1039 : Int)) = true := decide_eq_true (by omega)
  have f12 : (r == 223) = false := beq_eq_false_iff_ne.2 (by omega)
  have f13 : (r == 7838) = false := beq_eq_false_iff_ne.2 (by omega)
  have e1 : IntKind.i64.wrap (r + 32) = r + 32 := IntWalk.i64_in _ (by omega)
  have hb := fun w => bytes_int (r + 32) (by omega) (by omega) (by omega) w
  generalize (Utf8.encode (r + 32)).data.toList = l at *
  clear h0 h1 hv
  go_enter Tryz.func56, Tryz.ntmps56
  go_wp2_with fail
  refine (hb _).mono ?_
  rintro e w1 ⟨⟨v, rfl, ho⟩, hB⟩
  go_wp2_with fail
  go_ret
  exact ⟨⟨_, rfl, ho⟩, hB⟩

set_option maxHeartbeats 8000000 in
set_option maxRecDepth 100000 in
theorem r3f_2 (r : Int) (h0 : 91 ≤ r) (h1 : r ≤ 191) (hv : ¬ (55296 ≤ r ∧ r < 57344)) (w : World) :
    Calls Tryz.prog 56 #[.int .i64 r] w fun e w' => (∃ v, e = .returned v ∧ Own w.heap.size v (foldR r).data.toList w') ∧ Below w.heap.size w w' := by
  rw [foldR_4 r (by omega) (by omega) (by omega)]
  have f0 : decide ((65 : Int) ≤ r) = true := decide_eq_true (by omega)
  have f1 : decide (r ≤ (90 : Int)) = false := decide_eq_false (by omega)
  have f2 : decide ((192 : Int) ≤ r) = false := decide_eq_false (by omega)
  have f3 : decide (r ≤ (222 : Int)) = true := decide_eq_true (by omega)
  have f4 : (r != 215) = true := by rw [bne, show (r == 215) = false from beq_eq_false_iff_ne.2 (by omega)]; rfl
  have f5 : decide ((913 : Int) ≤ r) = false := decide_eq_false (by omega)
  have f6 : decide (r ≤ (939 : Int)) = true := decide_eq_true (by omega)
  have f7 : (r != 930) = true := by rw [bne, show (r == 930) = false from beq_eq_false_iff_ne.2 (by omega)]; rfl
  have f8 : decide ((1040 : Int) ≤ r) = false := decide_eq_false (by omega)
  have f9 : decide (r ≤ (1071 : Int)) = true := decide_eq_true (by omega)
  have f10 : decide ((1024 : Int) ≤ r) = false := decide_eq_false (by omega)
  have f11 : decide (r ≤ (1039 : Int)) = true := decide_eq_true (by omega)
  have f12 : (r == 223) = false := beq_eq_false_iff_ne.2 (by omega)
  have f13 : (r == 7838) = false := beq_eq_false_iff_ne.2 (by omega)
  have hb := fun w => bytes_int r (by omega) (by omega) (by omega) w
  generalize (Utf8.encode r).data.toList = l at *
  clear h0 h1 hv
  go_enter Tryz.func56, Tryz.ntmps56
  go_wp2_with fail
  refine (hb _).mono ?_
  rintro e w1 ⟨⟨v, rfl, ho⟩, hB⟩
  go_wp2_with fail
  go_ret
  exact ⟨⟨_, rfl, ho⟩, hB⟩

set_option maxHeartbeats 8000000 in
set_option maxRecDepth 100000 in
theorem r3f_3 (r : Int) (h0 : 192 ≤ r) (h1 : r ≤ 214) (hv : ¬ (55296 ≤ r ∧ r < 57344)) (w : World) :
    Calls Tryz.prog 56 #[.int .i64 r] w fun e w' => (∃ v, e = .returned v ∧ Own w.heap.size v (foldR r).data.toList w') ∧ Below w.heap.size w w' := by
  rw [foldR_1 r (by omega)]
  have f0 : decide ((65 : Int) ≤ r) = true := decide_eq_true (by omega)
  have f1 : decide (r ≤ (90 : Int)) = false := decide_eq_false (by omega)
  have f2 : decide ((192 : Int) ≤ r) = true := decide_eq_true (by omega)
  have f3 : decide (r ≤ (222 : Int)) = true := decide_eq_true (by omega)
  have f4 : (r != 215) = true := by rw [bne, show (r == 215) = false from beq_eq_false_iff_ne.2 (by omega)]; rfl
  have f5 : decide ((913 : Int) ≤ r) = false := decide_eq_false (by omega)
  have f6 : decide (r ≤ (939 : Int)) = true := decide_eq_true (by omega)
  have f7 : (r != 930) = true := by rw [bne, show (r == 930) = false from beq_eq_false_iff_ne.2 (by omega)]; rfl
  have f8 : decide ((1040 : Int) ≤ r) = false := decide_eq_false (by omega)
  have f9 : decide (r ≤ (1071 : Int)) = true := decide_eq_true (by omega)
  have f10 : decide ((1024 : Int) ≤ r) = false := decide_eq_false (by omega)
  have f11 : decide (r ≤ (1039 : Int)) = true := decide_eq_true (by omega)
  have f12 : (r == 223) = false := beq_eq_false_iff_ne.2 (by omega)
  have f13 : (r == 7838) = false := beq_eq_false_iff_ne.2 (by omega)
  have e1 : IntKind.i64.wrap (r + 32) = r + 32 := IntWalk.i64_in _ (by omega)
  have hb := fun w => bytes_int (r + 32) (by omega) (by omega) (by omega) w
  generalize (Utf8.encode (r + 32)).data.toList = l at *
  clear h0 h1 hv
  go_enter Tryz.func56, Tryz.ntmps56
  go_wp2_with fail
  refine (hb _).mono ?_
  rintro e w1 ⟨⟨v, rfl, ho⟩, hB⟩
  go_wp2_with fail
  go_ret
  exact ⟨⟨_, rfl, ho⟩, hB⟩

set_option maxHeartbeats 8000000 in
set_option maxRecDepth 100000 in
theorem r3f_4 (r : Int) (h0 : 215 ≤ r) (h1 : r ≤ 215) (hv : ¬ (55296 ≤ r ∧ r < 57344)) (w : World) :
    Calls Tryz.prog 56 #[.int .i64 r] w fun e w' => (∃ v, e = .returned v ∧ Own w.heap.size v (foldR r).data.toList w') ∧ Below w.heap.size w w' := by
  rw [foldR_4 r (by omega) (by omega) (by omega)]
  have f0 : decide ((65 : Int) ≤ r) = true := decide_eq_true (by omega)
  have f1 : decide (r ≤ (90 : Int)) = false := decide_eq_false (by omega)
  have f2 : decide ((192 : Int) ≤ r) = true := decide_eq_true (by omega)
  have f3 : decide (r ≤ (222 : Int)) = true := decide_eq_true (by omega)
  have f4 : (r != 215) = false := by rw [bne, show (r == 215) = true from beq_iff_eq.2 (by omega)]; rfl
  have f5 : decide ((913 : Int) ≤ r) = false := decide_eq_false (by omega)
  have f6 : decide (r ≤ (939 : Int)) = true := decide_eq_true (by omega)
  have f7 : (r != 930) = true := by rw [bne, show (r == 930) = false from beq_eq_false_iff_ne.2 (by omega)]; rfl
  have f8 : decide ((1040 : Int) ≤ r) = false := decide_eq_false (by omega)
  have f9 : decide (r ≤ (1071 : Int)) = true := decide_eq_true (by omega)
  have f10 : decide ((1024 : Int) ≤ r) = false := decide_eq_false (by omega)
  have f11 : decide (r ≤ (1039 : Int)) = true := decide_eq_true (by omega)
  have f12 : (r == 223) = false := beq_eq_false_iff_ne.2 (by omega)
  have f13 : (r == 7838) = false := beq_eq_false_iff_ne.2 (by omega)
  have hb := fun w => bytes_int r (by omega) (by omega) (by omega) w
  generalize (Utf8.encode r).data.toList = l at *
  clear h0 h1 hv
  go_enter Tryz.func56, Tryz.ntmps56
  go_wp2_with fail
  refine (hb _).mono ?_
  rintro e w1 ⟨⟨v, rfl, ho⟩, hB⟩
  go_wp2_with fail
  go_ret
  exact ⟨⟨_, rfl, ho⟩, hB⟩

set_option maxHeartbeats 8000000 in
set_option maxRecDepth 100000 in
theorem r3f_5 (r : Int) (h0 : 216 ≤ r) (h1 : r ≤ 222) (hv : ¬ (55296 ≤ r ∧ r < 57344)) (w : World) :
    Calls Tryz.prog 56 #[.int .i64 r] w fun e w' => (∃ v, e = .returned v ∧ Own w.heap.size v (foldR r).data.toList w') ∧ Below w.heap.size w w' := by
  rw [foldR_1 r (by omega)]
  have f0 : decide ((65 : Int) ≤ r) = true := decide_eq_true (by omega)
  have f1 : decide (r ≤ (90 : Int)) = false := decide_eq_false (by omega)
  have f2 : decide ((192 : Int) ≤ r) = true := decide_eq_true (by omega)
  have f3 : decide (r ≤ (222 : Int)) = true := decide_eq_true (by omega)
  have f4 : (r != 215) = true := by rw [bne, show (r == 215) = false from beq_eq_false_iff_ne.2 (by omega)]; rfl
  have f5 : decide ((913 : Int) ≤ r) = false := decide_eq_false (by omega)
  have f6 : decide (r ≤ (939 : Int)) = true := decide_eq_true (by omega)
  have f7 : (r != 930) = true := by rw [bne, show (r == 930) = false from beq_eq_false_iff_ne.2 (by omega)]; rfl
  have f8 : decide ((1040 : Int) ≤ r) = false := decide_eq_false (by omega)
  have f9 : decide (r ≤ (1071 : Int)) = true := decide_eq_true (by omega)
  have f10 : decide ((1024 : Int) ≤ r) = false := decide_eq_false (by omega)
  have f11 : decide (r ≤ (1039 : Int)) = true := decide_eq_true (by omega)
  have f12 : (r == 223) = false := beq_eq_false_iff_ne.2 (by omega)
  have f13 : (r == 7838) = false := beq_eq_false_iff_ne.2 (by omega)
  have e1 : IntKind.i64.wrap (r + 32) = r + 32 := IntWalk.i64_in _ (by omega)
  have hb := fun w => bytes_int (r + 32) (by omega) (by omega) (by omega) w
  generalize (Utf8.encode (r + 32)).data.toList = l at *
  clear h0 h1 hv
  go_enter Tryz.func56, Tryz.ntmps56
  go_wp2_with fail
  refine (hb _).mono ?_
  rintro e w1 ⟨⟨v, rfl, ho⟩, hB⟩
  go_wp2_with fail
  go_ret
  exact ⟨⟨_, rfl, ho⟩, hB⟩

set_option maxHeartbeats 8000000 in
set_option maxRecDepth 100000 in
theorem r3f_6 (r : Int) (h0 : 223 ≤ r) (h1 : r ≤ 223) (hv : ¬ (55296 ≤ r ∧ r < 57344)) (w : World) :
    Calls Tryz.prog 56 #[.int .i64 r] w fun e w' => (∃ v, e = .returned v ∧ Own w.heap.size v (foldR r).data.toList w') ∧ Below w.heap.size w w' := by
  rw [foldR_3 r (by omega)]
  have f0 : decide ((65 : Int) ≤ r) = true := decide_eq_true (by omega)
  have f1 : decide (r ≤ (90 : Int)) = false := decide_eq_false (by omega)
  have f2 : decide ((192 : Int) ≤ r) = true := decide_eq_true (by omega)
  have f3 : decide (r ≤ (222 : Int)) = false := decide_eq_false (by omega)
  have f4 : (r != 215) = true := by rw [bne, show (r == 215) = false from beq_eq_false_iff_ne.2 (by omega)]; rfl
  have f5 : decide ((913 : Int) ≤ r) = false := decide_eq_false (by omega)
  have f6 : decide (r ≤ (939 : Int)) = true := decide_eq_true (by omega)
  have f7 : (r != 930) = true := by rw [bne, show (r == 930) = false from beq_eq_false_iff_ne.2 (by omega)]; rfl
  have f8 : decide ((1040 : Int) ≤ r) = false := decide_eq_false (by omega)
  have f9 : decide (r ≤ (1071 : Int)) = true := decide_eq_true (by omega)
  have f10 : decide ((1024 : Int) ≤ r) = false := decide_eq_false (by omega)
  have f11 : decide (r ≤ (1039 : Int)) = true := decide_eq_true (by omega)
  have f12 : (r == 223) = true := beq_iff_eq.2 (by omega)
  have f13 : (r == 7838) = false := beq_eq_false_iff_ne.2 (by omega)
  have how := own_lit w [115, 115] _ (by simp) rfl
  clear h0 h1 hv
  go_enter Tryz.func56, Tryz.ntmps56
  go_wp2_with fail
  go_ret
  exact ⟨⟨_, rfl, how⟩, (Below.refl _ _).alloc (Nat.le_refl _) _⟩

set_option maxHeartbeats 8000000 in
set_option maxRecDepth 100000 in
theorem r3f_7 (r : Int) (h0 : 224 ≤ r) (h1 : r ≤ 912) (hv : ¬ (55296 ≤ r ∧ r < 57344)) (w : World) :
    Calls Tryz.prog 56 #[.int .i64 r] w fun e w' => (∃ v, e = .returned v ∧ Own w.heap.size v (foldR r).data.toList w') ∧ Below w.heap.size w w' := by
  rw [foldR_4 r (by omega) (by omega) (by omega)]
  have f0 : decide ((65 : Int) ≤ r) = true := decide_eq_true (by omega)
  have f1 : decide (r ≤ (90 : Int)) = false := decide_eq_false (by omega)
  have f2 : decide ((192 : Int) ≤ r) = true := decide_eq_true (by omega)
  have f3 : decide (r ≤ (222 : Int)) = false := decide_eq_false (by omega)
  have f4 : (r != 215) = true := by rw [bne, show (r == 215) = false from beq_eq_false_iff_ne.2 (by omega)]; rfl
  have f5 : decide ((913 : Int) ≤ r) = false := decide_eq_false (by omega)
  have f6 : decide (r ≤ (939 : Int)) = true := decide_eq_true (by omega)
  have f7 : (r != 930) = true := by rw [bne, show (r == 930) = false from beq_eq_false_iff_ne.2 (by omega)]; rfl
  have f8 : decide ((1040 : Int) ≤ r) = false := decide_eq_false (by omega)
  have f9 : decide (r ≤ (1071 : Int)) = true := decide_eq_true (by omega)
  have f10 : decide ((1024 : Int) ≤ r) = false := decide_eq_false (by omega)
  have f11 : decide (r ≤ (1039 : Int)) = true := decide_eq_true (by omega)
  have f12 : (r == 223) = false := beq_eq_false_iff_ne.2 (by omega)
  have f13 : (r == 7838) = false := beq_eq_false_iff_ne.2 (by omega)
  have hb := fun w => bytes_int r (by omega) (by omega) (by omega) w
  generalize (Utf8.encode r).data.toList = l at *
  clear h0 h1 hv
  go_enter Tryz.func56, Tryz.ntmps56
  go_wp2_with fail
  refine (hb _).mono ?_
  rintro e w1 ⟨⟨v, rfl, ho⟩, hB⟩
  go_wp2_with fail
  go_ret
  exact ⟨⟨_, rfl, ho⟩, hB⟩

set_option maxHeartbeats 8000000 in
set_option maxRecDepth 100000 in
theorem r3f_8 (r : Int) (h0 : 913 ≤ r) (h1 : r ≤ 929) (hv : ¬ (55296 ≤ r ∧ r < 57344)) (w : World) :
    Calls Tryz.prog 56 #[.int .i64 r] w fun e w' => (∃ v, e = .returned v ∧ Own w.heap.size v (foldR r).data.toList w') ∧ Below w.heap.size w w' := by
  rw [foldR_1 r (by omega)]
  have f0 : decide ((65 : Int) ≤ r) = true := decide_eq_true (by omega)
  have f1 : decide (r ≤ (90 : Int)) = false := decide_eq_false (by omega)
  have f2 : decide ((192 : Int) ≤ r) = true := decide_eq_true (by omega)
  have f3 : decide (r ≤ (222 : Int)) = false := decide_eq_false (by omega)
  have f4 : (r != 215) = true := by rw [bne, show (r == 215) = false from beq_eq_false_iff_ne.2 (by omega)]; rfl
  have f5 : decide ((913 : Int) ≤ r) = true := decide_eq_true (by omega)
  have f6 : decide (r ≤ (939 : Int)) = true := decide_eq_true (by omega)
  have f7 : (r != 930) = true := by rw [bne, show (r == 930) = false from beq_eq_false_iff_ne.2 (by omega)]; rfl
  have f8 : decide ((1040 : Int) ≤ r) = false := decide_eq_false (by omega)
  have f9 : decide (r ≤ (1071 : Int)) = true := decide_eq_true (by omega)
  have f10 : decide ((1024 : Int) ≤ r) = false := decide_eq_false (by omega)
  have f11 : decide (r ≤ (1039 : Int)) = true := decide_eq_true (by omega)
  have f12 : (r == 223) = false := beq_eq_false_iff_ne.2 (by omega)
  have f13 : (r == 7838) = false := beq_eq_false_iff_ne.2 (by omega)
  have e1 : IntKind.i64.wrap (r + 32) = r + 32 := IntWalk.i64_in _ (by omega)
  have hb := fun w => bytes_int (r + 32) (by omega) (by omega) (by omega) w
  generalize (Utf8.encode (r + 32)).data.toList = l at *
  clear h0 h1 hv
  go_enter Tryz.func56, Tryz.ntmps56
  go_wp2_with fail
  refine (hb _).mono ?_
  rintro e w1 ⟨⟨v, rfl, ho⟩, hB⟩
  go_wp2_with fail
  go_ret
  exact ⟨⟨_, rfl, ho⟩, hB⟩

set_option maxHeartbeats 8000000 in
set_option maxRecDepth 100000 in
theorem r3f_9 (r : Int) (h0 : 930 ≤ r) (h1 : r ≤ 930) (hv : ¬ (55296 ≤ r ∧ r < 57344)) (w : World) :
    Calls Tryz.prog 56 #[.int .i64 r] w fun e w' => (∃ v, e = .returned v ∧ Own w.heap.size v (foldR r).data.toList w') ∧ Below w.heap.size w w' := by
  rw [foldR_4 r (by omega) (by omega) (by omega)]
  have f0 : decide ((65 : Int) ≤ r) = true := decide_eq_true (by omega)
  have f1 : decide (r ≤ (90 : Int)) = false := decide_eq_false (by omega)
  have f2 : decide ((192 : Int) ≤ r) = true := decide_eq_true (by omega)
  have f3 : decide (r ≤ (222 : Int)) = false := decide_eq_false (by omega)
  have f4 : (r != 215) = true := by rw [bne, show (r == 215) = false from beq_eq_false_iff_ne.2 (by omega)]; rfl
  have f5 : decide ((913 : Int) ≤ r) = true := decide_eq_true (by omega)
  have f6 : decide (r ≤ (939 : Int)) = true := decide_eq_true (by omega)
  have f7 : (r != 930) = false := by rw [bne, show (r == 930) = true from beq_iff_eq.2 (by omega)]; rfl
  have f8 : decide ((1040 : Int) ≤ r) = false := decide_eq_false (by omega)
  have f9 : decide (r ≤ (1071 : Int)) = true := decide_eq_true (by omega)
  have f10 : decide ((1024 : Int) ≤ r) = false := decide_eq_false (by omega)
  have f11 : decide (r ≤ (1039 : Int)) = true := decide_eq_true (by omega)
  have f12 : (r == 223) = false := beq_eq_false_iff_ne.2 (by omega)
  have f13 : (r == 7838) = false := beq_eq_false_iff_ne.2 (by omega)
  have hb := fun w => bytes_int r (by omega) (by omega) (by omega) w
  generalize (Utf8.encode r).data.toList = l at *
  clear h0 h1 hv
  go_enter Tryz.func56, Tryz.ntmps56
  go_wp2_with fail
  refine (hb _).mono ?_
  rintro e w1 ⟨⟨v, rfl, ho⟩, hB⟩
  go_wp2_with fail
  go_ret
  exact ⟨⟨_, rfl, ho⟩, hB⟩

set_option maxHeartbeats 8000000 in
set_option maxRecDepth 100000 in
theorem r3f_10 (r : Int) (h0 : 931 ≤ r) (h1 : r ≤ 939) (hv : ¬ (55296 ≤ r ∧ r < 57344)) (w : World) :
    Calls Tryz.prog 56 #[.int .i64 r] w fun e w' => (∃ v, e = .returned v ∧ Own w.heap.size v (foldR r).data.toList w') ∧ Below w.heap.size w w' := by
  rw [foldR_1 r (by omega)]
  have f0 : decide ((65 : Int) ≤ r) = true := decide_eq_true (by omega)
  have f1 : decide (r ≤ (90 : Int)) = false := decide_eq_false (by omega)
  have f2 : decide ((192 : Int) ≤ r) = true := decide_eq_true (by omega)
  have f3 : decide (r ≤ (222 : Int)) = false := decide_eq_false (by omega)
  have f4 : (r != 215) = true := by rw [bne, show (r == 215) = false from beq_eq_false_iff_ne.2 (by omega)]; rfl
  have f5 : decide ((913 : Int) ≤ r) = true := decide_eq_true (by omega)
  have f6 : decide (r ≤ (939 : Int)) = true := decide_eq_true (by omega)
  have f7 : (r != 930) = true := by rw [bne, show (r == 930) = false from beq_eq_false_iff_ne.2 (by omega)]; rfl
  have f8 : decide ((1040 : Int) ≤ r) = false := decide_eq_false (by omega)
  have f9 : decide (r ≤ (1071 : Int)) = true := decide_eq_true (by omega)
  have f10 : decide ((1024 : Int) ≤ r) = false := decide_eq_false (by omega)
  have f11 : decide (r ≤ (1039 : Int)) = true := decide_eq_true (by omega)
  have f12 : (r == 223) = false := beq_eq_false_iff_ne.2 (by omega)
  have f13 : (r == 7838) = false := beq_eq_false_iff_ne.2 (by omega)
  have e1 : IntKind.i64.wrap (r + 32) = r + 32 := IntWalk.i64_in _ (by omega)
  have hb := fun w => bytes_int (r + 32) (by omega) (by omega) (by omega) w
  generalize (Utf8.encode (r + 32)).data.toList = l at *
  clear h0 h1 hv
  go_enter Tryz.func56, Tryz.ntmps56
  go_wp2_with fail
  refine (hb _).mono ?_
  rintro e w1 ⟨⟨v, rfl, ho⟩, hB⟩
  go_wp2_with fail
  go_ret
  exact ⟨⟨_, rfl, ho⟩, hB⟩

set_option maxHeartbeats 8000000 in
set_option maxRecDepth 100000 in
theorem r3f_11 (r : Int) (h0 : 940 ≤ r) (h1 : r ≤ 1023) (hv : ¬ (55296 ≤ r ∧ r < 57344)) (w : World) :
    Calls Tryz.prog 56 #[.int .i64 r] w fun e w' => (∃ v, e = .returned v ∧ Own w.heap.size v (foldR r).data.toList w') ∧ Below w.heap.size w w' := by
  rw [foldR_4 r (by omega) (by omega) (by omega)]
  have f0 : decide ((65 : Int) ≤ r) = true := decide_eq_true (by omega)
  have f1 : decide (r ≤ (90 : Int)) = false := decide_eq_false (by omega)
  have f2 : decide ((192 : Int) ≤ r) = true := decide_eq_true (by omega)
  have f3 : decide (r ≤ (222 : Int)) = false := decide_eq_false (by omega)
  have f4 : (r != 215) = true := by rw [bne, show (r == 215) = false from beq_eq_false_iff_ne.2 (by omega)]; rfl
  have f5 : decide ((913 : Int) ≤ r) = true := decide_eq_true (by omega)
  have f6 : decide (r ≤ (939 : Int)) = false := decide_eq_false (by omega)
  have f7 : (r != 930) = true := by rw [bne, show (r == 930) = false from beq_eq_false_iff_ne.2 (by omega)]; rfl
  have f8 : decide ((1040 : Int) ≤ r) = false := decide_eq_false (by omega)
  have f9 : decide (r ≤ (1071 : Int)) = true := decide_eq_true (by omega)
  have f10 : decide ((1024 : Int) ≤ r) = false := decide_eq_false (by omega)
  have f11 : decide (r ≤ (1039 : Int)) = true := decide_eq_true (by omega)
  have f12 : (r == 223) = false := beq_eq_false_iff_ne.2 (by omega)
  have f13 : (r == 7838) = false := beq_eq_false_iff_ne.2 (by omega)
  have hb := fun w => bytes_int r (by omega) (by omega) (by omega) w
  generalize (Utf8.encode r).data.toList = l at *
  clear h0 h1 hv
  go_enter Tryz.func56, Tryz.ntmps56
  go_wp2_with fail
  refine (hb _).mono ?_
  rintro e w1 ⟨⟨v, rfl, ho⟩, hB⟩
  go_wp2_with fail
  go_ret
  exact ⟨⟨_, rfl, ho⟩, hB⟩

set_option maxHeartbeats 8000000 in
set_option maxRecDepth 100000 in
theorem r3f_12 (r : Int) (h0 : 1024 ≤ r) (h1 : r ≤ 1039) (hv : ¬ (55296 ≤ r ∧ r < 57344)) (w : World) :
    Calls Tryz.prog 56 #[.int .i64 r] w fun e w' => (∃ v, e = .returned v ∧ Own w.heap.size v (foldR r).data.toList w') ∧ Below w.heap.size w w' := by
  rw [foldR_2 r (by omega)]
  have f0 : decide ((65 : Int) ≤ r) = true := decide_eq_true (by omega)
  have f1 : decide (r ≤ (90 : Int)) = false := decide_eq_false (by omega)
  have f2 : decide ((192 : Int) ≤ r) = true := decide_eq_true (by omega)
  have f3 : decide (r ≤ (222 : Int)) = false := decide_eq_false (by omega)
  have f4 : (r != 215) = true := by rw [bne, show (r == 215) = false from beq_eq_false_iff_ne.2 (by omega)]; rfl
  have f5 : decide ((913 : Int) ≤ r) = true := decide_eq_true (by omega)
  have f6 : decide (r ≤ (939 : Int)) = false := decide_eq_false (by omega)
  have f7 : (r != 930) = true := by rw [bne, show (r == 930) = false from beq_eq_false_iff_ne.2 (by omega)]; rfl
  have f8 : decide ((1040 : Int) ≤ r) = false := decide_eq_false (by omega)
  have f9 : decide (r ≤ (1071 : Int)) = true := decide_eq_true (by omega)
  have f10 : decide ((1024 : Int) ≤ r) = true := decide_eq_true (by omega)
  have f11 : decide (r ≤ (1039 : Int)) = true := decide_eq_true (by omega)
  have f12 : (r == 223) = false := beq_eq_false_iff_ne.2 (by omega)
  have f13 : (r == 7838) = false := beq_eq_false_iff_ne.2 (by omega)
  have e1 : IntKind.i64.wrap (r + 80) = r + 80 := IntWalk.i64_in _ (by omega)
  have hb := fun w => bytes_int (r + 80) (by omega) (by omega) (by omega) w
  generalize (Utf8.encode (r + 80)).data.toList = l at *
  clear h0 h1 hv
  go_enter Tryz.func56, Tryz.ntmps56
  go_wp2_with fail
  refine (hb _).mono ?_
  rintro e w1 ⟨⟨v, rfl, ho⟩, hB⟩
  go_wp2_with fail
  go_ret
  exact ⟨⟨_, rfl, ho⟩, hB⟩

set_option maxHeartbeats 8000000 in
set_option maxRecDepth 100000 in
theorem r3f_13 (r : Int) (h0 : 1040 ≤ r) (h1 : r ≤ 1071) (hv : ¬ (55296 ≤ r ∧ r < 57344)) (w : World) :
    Calls Tryz.prog 56 #[.int .i64 r] w fun e w' => (∃ v, e = .returned v ∧ Own w.heap.size v (foldR r).data.toList w') ∧ Below w.heap.size w w' := by
  rw [foldR_1 r (by omega)]
  have f0 : decide ((65 : Int) ≤ r) = true := decide_eq_true (by omega)
  have f1 : decide (r ≤ (90 : Int)) = false := decide_eq_false (by omega)
  have f2 : decide ((192 : Int) ≤ r) = true := decide_eq_true (by omega)
  have f3 : decide (r ≤ (222 : Int)) = false := decide_eq_false (by omega)
  have f4 : (r != 215) = true := by rw [bne, show (r == 215) = false from beq_eq_false_iff_ne.2 (by omega)]; rfl
  have f5 : decide ((913 : Int) ≤ r) = true := decide_eq_true (by omega)
  have f6 : decide (r ≤ (939 : Int)) = false := decide_eq_false (by omega)
  have f7 : (r != 930) = true := by rw [bne, show (r == 930) = false from beq_eq_false_iff_ne.2 (by omega)]; rfl
  have f8 : decide ((1040 : Int) ≤ r) = true := decide_eq_true (by omega)
  have f9 : decide (r ≤ (1071 : Int)) = true := decide_eq_true (by omega)
  have f10 : decide ((1024 : Int) ≤ r) = true := decide_eq_true (by omega)
  have f11 : decide (r ≤ (1039 : Int)) = false := decide_eq_false (by omega)
  have f12 : (r == 223) = false := beq_eq_false_iff_ne.2 (by omega)
  have f13 : (r == 7838) = false := beq_eq_false_iff_ne.2 (by omega)
  have e1 : IntKind.i64.wrap (r + 32) = r + 32 := IntWalk.i64_in _ (by omega)
  have hb := fun w => bytes_int (r + 32) (by omega) (by omega) (by omega) w
  generalize (Utf8.encode (r + 32)).data.toList = l at *
  clear h0 h1 hv
  go_enter Tryz.func56, Tryz.ntmps56
  go_wp2_with fail
  refine (hb _).mono ?_
  rintro e w1 ⟨⟨v, rfl, ho⟩, hB⟩
  go_wp2_with fail
  go_ret
  exact ⟨⟨_, rfl, ho⟩, hB⟩

set_option maxHeartbeats 8000000 in
set_option maxRecDepth 100000 in
theorem r3f_14 (r : Int) (h0 : 1072 ≤ r) (h1 : r ≤ 7837) (hv : ¬ (55296 ≤ r ∧ r < 57344)) (w : World) :
    Calls Tryz.prog 56 #[.int .i64 r] w fun e w' => (∃ v, e = .returned v ∧ Own w.heap.size v (foldR r).data.toList w') ∧ Below w.heap.size w w' := by
  rw [foldR_4 r (by omega) (by omega) (by omega)]
  have f0 : decide ((65 : Int) ≤ r) = true := decide_eq_true (by omega)
  have f1 : decide (r ≤ (90 : Int)) = false := decide_eq_false (by omega)
  have f2 : decide ((192 : Int) ≤ r) = true := decide_eq_true (by omega)
  have f3 : decide (r ≤ (222 : Int)) = false := decide_eq_false (by omega)
  have f4 : (r != 215) = true := by rw [bne, show (r == 215) = false from beq_eq_false_iff_ne.2 (by omega)]; rfl
  have f5 : decide ((913 : Int) ≤ r) = true := decide_eq_true (by omega)
  have f6 : decide (r ≤ (939 : Int)) = false := decide_eq_false (by omega)
  have f7 : (r != 930) = true := by rw [bne, show (r == 930) = false from beq_eq_false_iff_ne.2 (by omega)]; rfl
  have f8 : decide ((1040 : Int) ≤ r) = true := decide_eq_true (by omega)
  have f9 : decide (r ≤ (1071 : Int)) = false := decide_eq_false (by omega)
  have f10 : decide ((1024 : Int) ≤ r) = true := decide_eq_true (by omega)
  have f11 : decide (r ≤ (1039 : Int)) = false := decide_eq_false (by omega)
  have f12 : (r == 223) = false := beq_eq_false_iff_ne.2 (by omega)
  have f13 : (r == 7838) = false := beq_eq_false_iff_ne.2 (by omega)
  have hb := fun w => bytes_int r (by omega) (by omega) (by omega) w
  generalize (Utf8.encode r).data.toList = l at *
  clear h0 h1 hv
  go_enter Tryz.func56, Tryz.ntmps56
  go_wp2_with fail
  refine (hb _).mono ?_
  rintro e w1 ⟨⟨v, rfl, ho⟩, hB⟩
  go_wp2_with fail
  go_ret
  exact ⟨⟨_, rfl, ho⟩, hB⟩

set_option maxHeartbeats 8000000 in
set_option maxRecDepth 100000 in
theorem r3f_15 (r : Int) (h0 : 7838 ≤ r) (h1 : r ≤ 7838) (hv : ¬ (55296 ≤ r ∧ r < 57344)) (w : World) :
    Calls Tryz.prog 56 #[.int .i64 r] w fun e w' => (∃ v, e = .returned v ∧ Own w.heap.size v (foldR r).data.toList w') ∧ Below w.heap.size w w' := by
  rw [foldR_3 r (by omega)]
  have f0 : decide ((65 : Int) ≤ r) = true := decide_eq_true (by omega)
  have f1 : decide (r ≤ (90 : Int)) = false := decide_eq_false (by omega)
  have f2 : decide ((192 : Int) ≤ r) = true := decide_eq_true (by omega)
  have f3 : decide (r ≤ (222 : Int)) = false := decide_eq_false (by omega)
  have f4 : (r != 215) = true := by rw [bne, show (r == 215) = false from beq_eq_false_iff_ne.2 (by omega)]; rfl
  have f5 : decide ((913 : Int) ≤ r) = true := decide_eq_true (by omega)
  have f6 : decide (r ≤ (939 : Int)) = false := decide_eq_false (by omega)
  have f7 : (r != 930) = true := by rw [bne, show (r == 930) = false from beq_eq_false_iff_ne.2 (by omega)]; rfl
  have f8 : decide ((1040 : Int) ≤ r) = true := decide_eq_true (by omega)
  have f9 : decide (r ≤ (1071 : Int)) = false := decide_eq_false (by omega)
  have f10 : decide ((1024 : Int) ≤ r) = true := decide_eq_true (by omega)
  have f11 : decide (r ≤ (1039 : Int)) = false := decide_eq_false (by omega)
  have f12 : (r == 223) = false := beq_eq_false_iff_ne.2 (by omega)
  have f13 : (r == 7838) = true := beq_iff_eq.2 (by omega)
  have how := own_lit w [115, 115] _ (by simp) rfl
  clear h0 h1 hv
  go_enter Tryz.func56, Tryz.ntmps56
  go_wp2_with fail
  go_ret
  exact ⟨⟨_, rfl, how⟩, (Below.refl _ _).alloc (Nat.le_refl _) _⟩

set_option maxHeartbeats 8000000 in
set_option maxRecDepth 100000 in
theorem r3f_16 (r : Int) (h0 : 7839 ≤ r) (h1 : r ≤ 1114111) (hv : ¬ (55296 ≤ r ∧ r < 57344)) (w : World) :
    Calls Tryz.prog 56 #[.int .i64 r] w fun e w' => (∃ v, e = .returned v ∧ Own w.heap.size v (foldR r).data.toList w') ∧ Below w.heap.size w w' := by
  rw [foldR_4 r (by omega) (by omega) (by omega)]
  have f0 : decide ((65 : Int) ≤ r) = true := decide_eq_true (by omega)
  have f1 : decide (r ≤ (90 : Int)) = false := decide_eq_false (by omega)
  have f2 : decide ((192 : Int) ≤ r) = true := decide_eq_true (by omega)
  have f3 : decide (r ≤ (222 : Int)) = false := decide_eq_false (by omega)
  have f4 : (r != 215) = true := by rw [bne, show (r == 215) = false from beq_eq_false_iff_ne.2 (by omega)]; rfl
  have f5 : decide ((913 : Int) ≤ r) = true := decide_eq_true (by omega)
  have f6 : decide (r ≤ (939 : Int)) = false := decide_eq_false (by omega)
  have f7 : (r != 930) = true := by rw [bne, show (r == 930) = false from beq_eq_false_iff_ne.2 (by omega)]; rfl
  have f8 : decide ((1040 : Int) ≤ r) = true := decide_eq_true (by omega)
  have f9 : decide (r ≤ (1071 : Int)) = false := decide_eq_false (by omega)
  have f10 : decide ((1024 : Int) ≤ r) = true := decide_eq_true (by omega)
  have f11 : decide (r ≤ (1039 : Int)) = false := decide_eq_false (by omega)
  have f12 : (r == 223) = false := beq_eq_false_iff_ne.2 (by omega)
  have f13 : (r == 7838) = false := beq_eq_false_iff_ne.2 (by omega)
  have hb := fun w => bytes_int r (by omega) (by omega) (by omega) w
  generalize (Utf8.encode r).data.toList = l at *
  clear h0 h1 hv
  go_enter Tryz.func56, Tryz.ntmps56
  go_wp2_with fail
  refine (hb _).mono ?_
  rintro e w1 ⟨⟨v, rfl, ho⟩, hB⟩
  go_wp2_with fail
  go_ret
  exact ⟨⟨_, rfl, ho⟩, hB⟩

theorem r3fold_calls (r : Int) (h0 : 0 ≤ r) (hv : ¬ (55296 ≤ r ∧ r < 57344)) (h1114 : r ≤ 1114111) (w : World) :
    Calls Tryz.prog 56 #[.int .i64 r] w fun e w' => (∃ v, e = .returned v ∧ Own w.heap.size v (foldR r).data.toList w') ∧ Below w.heap.size w w' := by
  by_cases c0 : r < 65
  · exact r3f_0 r (by omega) (by omega) hv w
  by_cases c1 : r < 91
  · exact r3f_1 r (by omega) (by omega) hv w
  by_cases c2 : r < 192
  · exact r3f_2 r (by omega) (by omega) hv w
  by_cases c3 : r < 215
  · exact r3f_3 r (by omega) (by omega) hv w
  by_cases c4 : r < 216
  · exact r3f_4 r (by omega) (by omega) hv w
  by_cases c5 : r < 223
  · exact r3f_5 r (by omega) (by omega) hv w
  by_cases c6 : r < 224
  · exact r3f_6 r (by omega) (by omega) hv w
  by_cases c7 : r < 913
  · exact r3f_7 r (by omega) (by omega) hv w
  by_cases c8 : r < 930
  · exact r3f_8 r (by omega) (by omega) hv w
  by_cases c9 : r < 931
  · exact r3f_9 r (by omega) (by omega) hv w
  by_cases c10 : r < 940
  · exact r3f_10 r (by omega) (by omega) hv w
  by_cases c11 : r < 1024
  · exact r3f_11 r (by omega) (by omega) hv w
  by_cases c12 : r < 1040
  · exact r3f_12 r (by omega) (by omega) hv w
  by_cases c13 : r < 1072
  · exact r3f_13 r (by omega) (by omega) hv w
  by_cases c14 : r < 7838
  · exact r3f_14 r (by omega) (by omega) hv w
  by_cases c15 : r < 7839
  · exact r3f_15 r (by omega) (by omega) hv w
  exact r3f_16 r (by omega) (by omega) hv w

theorem runeF_valid (s : ByteArray) (a : Nat) : ¬ (55296 ≤ (runeF s a).1 ∧ (runeF s a).1 < 57344) := by
  unfold runeF
  split
  · have h := decodeN_valid (s.size - a) (s.get! a).toNat (s.get! (a + 1)).toNat (s.get! (a + 2)).toNat (s.get! (a + 3)).toNat (UInt8.toNat_lt _)
    rw [← Lib.decode_at] at h
    rw [show ((a : Int)).toNat = a from Int.toNat_natCast a]
    show ¬ ((55296 : Int) ≤ ((Utf8.decode s a).1 : Nat) ∧ (((Utf8.decode s a).1 : Nat) : Int) < 57344)
    omega
  · decide


theorem foldR_ge (r : Int) : 1 ≤ (foldR r).data.toList.length := by
  have he : ∀ x : Int, 1 ≤ (Utf8.encode x).data.toList.length := by
    intro x
    unfold Utf8.encode
    simp only []
    generalize (if Utf8.valid x = true then x.toNat else Utf8.runeError) = c
    by_cases h1 : c < 128
    · rw [if_pos h1]; simp
    · rw [if_neg h1]
      by_cases h2 : c < 2048
      · rw [if_pos h2]; simp
      · rw [if_neg h2]
        by_cases h3 : c < 65536
        · rw [if_pos h3]; simp
        · rw [if_neg h3]; simp
  unfold foldR
  repeat' split
  all_goals first | exact he _ | simp

set_option maxHeartbeats 8000000 in
set_option maxRecDepth 100000 in
theorem r3Fold_calls (s : ByteArray) (w : World) (hs : s.size ≤ 150000) :
    Calls Tryz.prog 28 #[.string s] w fun e w' => e = .returned (.string (foldF s)) ∧ Below w.heap.size w w' := by
  go_enter Tryz.func28, Tryz.ntmps28
  go_wp2_with fail
  have hO := Own.new w.heap.size w (Nat.le_refl _)
  have hW2 := (Below.refl w.heap.size w).alloc (Nat.le_refl _) (.cells #[] 5)
  generalize (w.alloc (.cells #[] 5)) = W2 at *
  generalize Value.slice (some { block := w.heap.size, off := 0 }) 0 0 = v0 at *
  go_loopg [3, 4, 5] s.size (fun gk v gv i wr => ∃ (k : Nat) (acc : List UInt8) (g : Bool), Aside (gk + k = s.size) ∧ k ≤ s.size ∧ gv = .bool g ∧ i = .int .i64 k ∧ Hid (foldT s k acc g = foldT s 0 [] false) ∧ acc.length ≤ 5 * k ∧ Aside (Own w.heap.size v acc wr) ∧ Hid (Below w.heap.size w wr))
  case atStart => exact ⟨0, [], false, rfl, Nat.zero_le _, rfl, rfl, rfl, Nat.zero_le _, hO, hW2⟩
  case round =>
    obtain ⟨k, acc, g, hgk, hk, rfl, rfl, hacc, hal, hOw, hbe⟩ := hrel
    clear hO hW2
    have hwz := hbe.out.size
    have hOw0 := Lib.hid hOw.out
    clear hOw
    by_cases hlt : k < s.size
    · have j0 : (0 : Int) ≤ (k : Int) := by omega
      have j1 : (k : Int) < (s.size : Int) := by omega
      obtain ⟨m, hm, hm1, hm2⟩ := rune_step s k hlt
      have hfb := Lib.hid (foldT_blank s k acc g hlt m hm hm1)
      have hfc := Lib.hid (foldT_char s k acc g hlt m hm hm1)
      have hbd := runeF_bd s k
      have hvd := runeF_valid s k
      have hru := fun w => refRune_calls s k w (by omega)
      have hbk := fun w => refBlank_calls (runeF s k).1 w
      have hfo := fun w => r3fold_calls (runeF s k).1 hbd.1 hvd hbd.2.1 w
      have hfl := foldR_le (runeF s k).1
      have hfg := foldR_ge (runeF s k).1
      have hfz : (foldR (runeF s k).1).data.toList.length = (foldR (runeF s k).1).size := lst_size _
      rw [hm] at hru
      clear hvd
      generalize (runeF s k).1 = r at *
      have e1 : IntKind.i64.wrap ((k : Int) + (m : Int)) = ((k + m : Nat) : Int) := by rw [IntWalk.i64_in _ (by omega)]; omega
      go_wp2_with fail
      refine (hru _).mono ?_
      rintro e w1 ⟨rfl, hB1⟩
      have hOw1 := Lib.hid (hOw0.out.below hB1)
      have hbe1 := Lib.hid (hbe.out.trans (hB1.mono hwz))
      have hwz1 := hbe1.out.size
      clear hru hbe hB1 hwz hOw0
      go_wp2_with fail
      refine (hbk _).mono ?_
      rintro e w2 ⟨rfl, hB1⟩
      have hOw2 := Lib.hid (hOw1.out.below hB1)
      have hbe2 := Lib.hid (hbe1.out.trans (hB1.mono hwz1))
      have hwz2 := hbe2.out.size
      clear hbk hbe1 hB1 hwz1 hOw1
      cases hb : blankB r with
      | true =>
        have hst : Hid (foldT s (k + m) acc true = foldT s 0 [] false) := by show _ = _; rw [← hacc.out, hfb.out hb]
        clear hfb hfc hacc hb hbd hfl hfg hfz
        go_wp2_with fail
        go_roundg (s.size - (k + m))
        case measure => have := hgk.out; omega
        case rel => exact ⟨k + m, acc, true, by show _ = _; omega, hm2, rfl, by go_num, hst, by omega, hOw2.out, hbe2⟩
      | false =>
        obtain ⟨g0, c0, hv0⟩ := hOw2.out.2
        rw [hv0] at hOw2
        subst hv0
        cases hg : (g && !acc.isEmpty) with
        | true =>
          have hst : Hid (foldT s (k + m) ((acc ++ [32]) ++ (foldR r).data.toList) false = foldT s 0 [] false) := by show _ = _; rw [← hacc.out, hfc.out hb, if_pos hg]
          have hal2 : ((acc ++ [32]) ++ (foldR r).data.toList).length ≤ 5 * (k + m) := by
            rw [List.length_append, List.length_append]; simp at hfz ⊢; omega
          have hgt : g = true := by cases g <;> simp_all
          have hpos : decide ((0 : Int) < (acc.length : Int)) = true := by rw [len_pos]; cases g <;> simp_all
          have hpos' : 0 < acc.length := by simpa using hpos
          subst hgt
          generalize (foldR r).data.toList = FL at *
          clear hfb hfc hacc hb hbd hg
          go_wp2_with (at_builtin; refine append_byte rfl (.tmp 30) (.tmp 31) rfl w.heap.size _ acc 32 _ w2 rfl rfl hOw2.out rfl (by omega) hwz2 ?_; intro v' w' hO' hB' _)
          have hbe3 := Lib.hid (hbe2.out.trans hB')
          have hwz3 := hbe3.out.size
          have hO3 := Lib.hid hO'
          clear hO' hB' hOw2 hbe2 hwz2
          refine (hfo _).mono ?_
          rintro e w4 ⟨⟨v4, rfl, ho4⟩, hB4⟩
          have hO4 := Lib.hid (hO3.out.below hB4)
          have hbe4 := Lib.hid (hbe3.out.trans (hB4.mono hwz3))
          have hwz4 := hbe4.out.size
          have ho5 := Lib.hid ho4
          clear hO3 hbe3 hwz3 hB4 hfo ho4
          go_wp2_with (at_builtin; refine append_bytes rfl (.tmp 33) (.tmp 35) rfl w.heap.size _ _ _ (acc ++ [32]) FL w4 rfl hO4.out rfl ho5.out (by rw [List.length_append]; simp; omega) (by omega) hfg hwz4 ?_; intro v' w' hO' hB')
          go_roundg (s.size - (k + m))
          case measure => have := hgk.out; omega
          case rel => exact ⟨k + m, _, false, by show _ = _; omega, hm2, rfl, by go_num, hst, hal2, hO', hbe4.out.trans hB'⟩
        | false =>
          have hst : Hid (foldT s (k + m) (acc ++ (foldR r).data.toList) false = foldT s 0 [] false) := by show _ = _; rw [← hacc.out, hfc.out hb, if_neg (by rw [hg]; decide)]
          have hal2 : (acc ++ (foldR r).data.toList).length ≤ 5 * (k + m) := by
            rw [List.length_append]; omega
          generalize (foldR r).data.toList = FL at *
          clear hfb hfc hacc hb hbd
          cases g with
          | false =>
            clear hg
            go_wp2_with fail
            refine (hfo _).mono ?_
            rintro e w4 ⟨⟨v4, rfl, ho4⟩, hB4⟩
            have hO4 := Lib.hid (hOw2.out.below hB4)
            have hbe4 := Lib.hid (hbe2.out.trans (hB4.mono hwz2))
            have hwz4 := hbe4.out.size
            have ho5 := Lib.hid ho4
            clear hOw2 hbe2 hwz2 hB4 hfo ho4
            go_wp2_with (at_builtin; refine append_bytes rfl (.tmp 33) (.tmp 35) rfl w.heap.size _ _ _ acc FL w4 rfl hO4.out rfl ho5.out (by omega) (by omega) hfg hwz4 ?_; intro v' w' hO' hB')
            go_roundg (s.size - (k + m))
            case measure => have := hgk.out; omega
            case rel => exact ⟨k + m, _, false, by show _ = _; omega, hm2, rfl, by go_num, hst, hal2, hO', hbe4.out.trans hB'⟩
          | true =>
            have hpos : decide ((0 : Int) < (acc.length : Int)) = false := by rw [len_pos]; simpa using hg
            have hpos' : ¬ 0 < acc.length := by simpa using hpos
            have hpos2 : decide (0 < acc.length) = false := decide_eq_false hpos'
            clear hg
            go_wp2_with fail
            refine (hfo _).mono ?_
            rintro e w4 ⟨⟨v4, rfl, ho4⟩, hB4⟩
            have hO4 := Lib.hid (hOw2.out.below hB4)
            have hbe4 := Lib.hid (hbe2.out.trans (hB4.mono hwz2))
            have hwz4 := hbe4.out.size
            have ho5 := Lib.hid ho4
            clear hOw2 hbe2 hwz2 hB4 hfo ho4
            go_wp2_with (at_builtin; refine append_bytes rfl (.tmp 33) (.tmp 35) rfl w.heap.size _ _ _ acc FL w4 rfl hO4.out rfl ho5.out (by omega) (by omega) hfg hwz4 ?_; intro v' w' hO' hB')
            go_roundg (s.size - (k + m))
            case measure => have := hgk.out; omega
            case rel => exact ⟨k + m, _, false, by show _ = _; omega, hm2, rfl, by go_num, hst, hal2, hO', hbe4.out.trans hB'⟩
    · have hr : Hid (foldF s = ⟨acc.toArray⟩) := by
        show _ = _
        rw [foldT_all, ← hacc.out, foldT_end s k _ _ (by omega)]
      have hcv := own_text hOw0.out
      go_wp2_with fail
      go_ret
      exact ⟨ret_str (by rw [hr.out]), hbe.out⟩

end Go.Proofs.YtcpbljhogenjoaaGreatDoor
