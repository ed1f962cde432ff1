/- Walks: link's reference: Define; the law LinkDefines. -/
import Derived.Test.YtcpbljhogenjoaaGreatDoorLink8E
import Derived.Test.YtcpbljhogenjoaaGreatDoorFoldRef
import Derived.Test.YtcpbljhogenjoaaGreatDoorAlive08
namespace Go.Proofs.YtcpbljhogenjoaaGreatDoor
set_option linter.unusedVariables false
set_option linter.unusedSimpArgs false
open Go Go.RowKit Go.Shelf Go.Lib

set_option maxHeartbeats 4000000 in
set_option maxRecDepth 100000 in
theorem Rdef_no1 (s : ByteArray) (a : Int) (w : World) (L : ByteArray) (hlc : ∀ w, Calls Tryz.prog 7 #[.string s, .int .i64 a] w fun e w' => e = .returned (.tuple #[.string L, .int .i64 0]) ∧ Below w.heap.size w w') :
    Calls Tryz.prog 13 #[.string s, .int .i64 a] w fun e w' =>  e = .returned (.tuple #[defV noDef, .int .i64 0]) ∧ Below w.heap.size w w' := by
  go_enter Tryz.func13, Tryz.ntmps13
  go_wp2_with fail
  have hB := (Below.refl w.heap.size w).alloc (Nat.le_refl _) (.cells #[.string ⟨#[]⟩, .string ⟨#[]⟩, .string ⟨#[]⟩, .int .i64 0, .int .i64 0] 27)
  have Q := heap_alloc_new w (.cells #[.string ⟨#[]⟩, .string ⟨#[]⟩, .string ⟨#[]⟩, .int .i64 0, .int .i64 0] 27)
  generalize w.alloc (.cells #[.string ⟨#[]⟩, .string ⟨#[]⟩, .string ⟨#[]⟩, .int .i64 0, .int .i64 0] 27) = W at *
  refine (hlc _).mono ?_
  rintro e w1 ⟨rfl, hB1⟩
  replace Q := below_block hB1 (blk_lt Q) Q
  replace hB := hB.trans (hB1.mono hB.size)
  clear hB1
  have y0 := blk_cell Q 0
  have y1 := blk_cell Q 1
  have y2 := blk_cell Q 2
  have y3 := blk_cell Q 3
  have y4 := blk_cell Q 4
  have z0 := blk_free Q 0
  have z1 := blk_free Q 1
  have z2 := blk_free Q 2
  have z3 := blk_free Q 3
  have z4 := blk_free Q 4
  simp at y0 y1 y2 y3 y4
  go_wp2_with fail
  refine bodyPost_ret (v := .tuple #[defV noDef, .int .i64 0]) (by simp [results, Tryz.results13, go_sem, y0, y1, y2, y3, y4, defV, noDef]) rfl ⟨rfl, ?_⟩
  go_grown

set_option maxHeartbeats 4000000 in
set_option maxRecDepth 100000 in
theorem Rdef_no2a (s : ByteArray) (a n : Nat) (w : World) (hs : s.size ≤ 150000) (hn : 0 < n) (hb : a + n ≤ s.size) (h : s.size ≤ a + n) (L : ByteArray) (hlc : ∀ w, Calls Tryz.prog 7 #[.string s, .int .i64 (a : Nat)] w fun e w' => e = .returned (.tuple #[.string L, .int .i64 (n : Nat)]) ∧ Below w.heap.size w w') :
    Calls Tryz.prog 13 #[.string s, .int .i64 (a : Nat)] w fun e w' =>  e = .returned (.tuple #[defV noDef, .int .i64 0]) ∧ Below w.heap.size w w' := by
  have i0 : (0 : Int) ≤ (a : Int) + (n : Int) := by omega
  have d0 : ((n : Int) == 0) = false := beq_eq_false_iff_ne.2 (by omega)
  have e1 : IntKind.i64.wrap ((a : Int) + (n : Int)) = ((a + n : Nat) : Int) := by rw [IntWalk.i64_in _ (by omega)]; omega
  have dl : decide ((s.size : Int) ≤ ((a + n : Nat) : Int)) = true := decide_eq_true (by omega)
  have dl' : decide (s.size ≤ a + n) = true := decide_eq_true (by omega)
  go_enter Tryz.func13, Tryz.ntmps13
  go_wp2_with fail
  have hB := (Below.refl w.heap.size w).alloc (Nat.le_refl _) (.cells #[.string ⟨#[]⟩, .string ⟨#[]⟩, .string ⟨#[]⟩, .int .i64 0, .int .i64 0] 27)
  have Q := heap_alloc_new w (.cells #[.string ⟨#[]⟩, .string ⟨#[]⟩, .string ⟨#[]⟩, .int .i64 0, .int .i64 0] 27)
  generalize w.alloc (.cells #[.string ⟨#[]⟩, .string ⟨#[]⟩, .string ⟨#[]⟩, .int .i64 0, .int .i64 0] 27) = W at *
  refine (hlc _).mono ?_
  rintro e w1 ⟨rfl, hB1⟩
  replace Q := below_block hB1 (blk_lt Q) Q
  replace hB := hB.trans (hB1.mono hB.size)
  clear hB1
  have y0 := blk_cell Q 0
  have y1 := blk_cell Q 1
  have y2 := blk_cell Q 2
  have y3 := blk_cell Q 3
  have y4 := blk_cell Q 4
  have z0 := blk_free Q 0
  have z1 := blk_free Q 1
  have z2 := blk_free Q 2
  have z3 := blk_free Q 3
  have z4 := blk_free Q 4
  simp at y0 y1 y2 y3 y4
  go_wp2_with fail
  refine bodyPost_ret (v := .tuple #[defV noDef, .int .i64 0]) (by simp [results, Tryz.results13, go_sem, y0, y1, y2, y3, y4, defV, noDef]) rfl ⟨rfl, ?_⟩
  go_grown

set_option maxHeartbeats 4000000 in
set_option maxRecDepth 100000 in
theorem Rdef_no2b (s : ByteArray) (a n : Nat) (w : World) (hs : s.size ≤ 150000) (hn : 0 < n) (hlt : a + n < s.size) (h : (s[a + n] == 58) = false) (L : ByteArray) (hlc : ∀ w, Calls Tryz.prog 7 #[.string s, .int .i64 (a : Nat)] w fun e w' => e = .returned (.tuple #[.string L, .int .i64 (n : Nat)]) ∧ Below w.heap.size w w') :
    Calls Tryz.prog 13 #[.string s, .int .i64 (a : Nat)] w fun e w' =>  e = .returned (.tuple #[defV noDef, .int .i64 0]) ∧ Below w.heap.size w w' := by
  have i0 : (0 : Int) ≤ (a : Int) + (n : Int) := by omega
  have d0 : ((n : Int) == 0) = false := beq_eq_false_iff_ne.2 (by omega)
  have e1 : IntKind.i64.wrap ((a : Int) + (n : Int)) = ((a + n : Nat) : Int) := by rw [IntWalk.i64_in _ (by omega)]; omega
  have i1 : ((a + n : Nat) : Int) < (s.size : Int) := by omega
  have i2 : (0 : Int) ≤ ((a + n : Nat) : Int) := by omega
  have dl : decide ((s.size : Int) ≤ ((a + n : Nat) : Int)) = false := decide_eq_false (by omega)
  have dl' : decide (s.size ≤ a + n) = false := decide_eq_false (by omega)
  have ul : ((s[a + n].toNat : Int) != 58) = true := by rw [show ((s[a + n].toNat : Int) != 58) = !(s[a + n] == 58) from nb s[a + n] 58, h]; rfl
  clear h
  go_enter Tryz.func13, Tryz.ntmps13
  go_wp2_with fail
  have hB := (Below.refl w.heap.size w).alloc (Nat.le_refl _) (.cells #[.string ⟨#[]⟩, .string ⟨#[]⟩, .string ⟨#[]⟩, .int .i64 0, .int .i64 0] 27)
  have Q := heap_alloc_new w (.cells #[.string ⟨#[]⟩, .string ⟨#[]⟩, .string ⟨#[]⟩, .int .i64 0, .int .i64 0] 27)
  generalize w.alloc (.cells #[.string ⟨#[]⟩, .string ⟨#[]⟩, .string ⟨#[]⟩, .int .i64 0, .int .i64 0] 27) = W at *
  refine (hlc _).mono ?_
  rintro e w1 ⟨rfl, hB1⟩
  replace Q := below_block hB1 (blk_lt Q) Q
  replace hB := hB.trans (hB1.mono hB.size)
  clear hB1
  have y0 := blk_cell Q 0
  have y1 := blk_cell Q 1
  have y2 := blk_cell Q 2
  have y3 := blk_cell Q 3
  have y4 := blk_cell Q 4
  have z0 := blk_free Q 0
  have z1 := blk_free Q 1
  have z2 := blk_free Q 2
  have z3 := blk_free Q 3
  have z4 := blk_free Q 4
  simp at y0 y1 y2 y3 y4
  go_wp2_with fail
  refine bodyPost_ret (v := .tuple #[defV noDef, .int .i64 0]) (by simp [results, Tryz.results13, go_sem, y0, y1, y2, y3, y4, defV, noDef]) rfl ⟨rfl, ?_⟩
  go_grown

set_option maxHeartbeats 4000000 in
set_option maxRecDepth 100000 in
theorem Rdef_no3 (s : ByteArray) (a n : Nat) (w : World) (hs : s.size ≤ 150000) (hn : 0 < n) (hb : a + n < s.size ∧ ∀ h : a + n < s.size, (s[a + n] == 58) = true) (L : ByteArray) (hlc : ∀ w, Calls Tryz.prog 7 #[.string s, .int .i64 (a : Nat)] w fun e w' => e = .returned (.tuple #[.string L, .int .i64 (n : Nat)]) ∧ Below w.heap.size w w') (hgc : ∀ w, Calls Tryz.prog 27 #[.string s, .int .i64 ((a + n + 1 : Nat) : Int)] w fun e w' => e = .returned (.int .i64 (-1)) ∧ Below w.heap.size w w') :
    Calls Tryz.prog 13 #[.string s, .int .i64 (a : Nat)] w fun e w' =>  e = .returned (.tuple #[defV noDef, .int .i64 0]) ∧ Below w.heap.size w w' := by
  have i0 : (0 : Int) ≤ (a : Int) + (n : Int) := by omega
  have d0 : ((n : Int) == 0) = false := beq_eq_false_iff_ne.2 (by omega)
  have e1 : IntKind.i64.wrap ((a : Int) + (n : Int)) = ((a + n : Nat) : Int) := by rw [IntWalk.i64_in _ (by omega)]; omega
  have hlt : a + n < s.size := hb.1
  have i1 : ((a + n : Nat) : Int) < (s.size : Int) := by omega
  have i2 : (0 : Int) ≤ ((a + n : Nat) : Int) := by omega
  have dl : decide ((s.size : Int) ≤ ((a + n : Nat) : Int)) = false := decide_eq_false (by omega)
  have dl' : decide (s.size ≤ a + n) = false := decide_eq_false (by omega)
  have ul : ((s[a + n].toNat : Int) != 58) = false := by rw [show ((s[a + n].toNat : Int) != 58) = !(s[a + n] == 58) from nb s[a + n] 58, hb.2 hlt]; rfl
  have e2 : IntKind.i64.wrap (((a + n : Nat) : Int) + 1) = ((a + n + 1 : Nat) : Int) := by rw [IntWalk.i64_in _ (by omega)]; omega
  clear hb
  go_enter Tryz.func13, Tryz.ntmps13
  go_wp2_with fail
  have hB := (Below.refl w.heap.size w).alloc (Nat.le_refl _) (.cells #[.string ⟨#[]⟩, .string ⟨#[]⟩, .string ⟨#[]⟩, .int .i64 0, .int .i64 0] 27)
  have Q := heap_alloc_new w (.cells #[.string ⟨#[]⟩, .string ⟨#[]⟩, .string ⟨#[]⟩, .int .i64 0, .int .i64 0] 27)
  generalize w.alloc (.cells #[.string ⟨#[]⟩, .string ⟨#[]⟩, .string ⟨#[]⟩, .int .i64 0, .int .i64 0] 27) = W at *
  refine (hlc _).mono ?_
  rintro e w1 ⟨rfl, hB1⟩
  replace Q := below_block hB1 (blk_lt Q) Q
  replace hB := hB.trans (hB1.mono hB.size)
  clear hB1
  go_wp2_with fail
  refine (hgc _).mono ?_
  rintro e w3 ⟨rfl, hB1⟩
  replace Q := below_block hB1 (blk_lt Q) Q
  replace hB := hB.trans (hB1.mono hB.size)
  clear hB1
  have y0 := blk_cell Q 0
  have y1 := blk_cell Q 1
  have y2 := blk_cell Q 2
  have y3 := blk_cell Q 3
  have y4 := blk_cell Q 4
  have z0 := blk_free Q 0
  have z1 := blk_free Q 1
  have z2 := blk_free Q 2
  have z3 := blk_free Q 3
  have z4 := blk_free Q 4
  simp at y0 y1 y2 y3 y4
  go_wp2_with fail
  refine bodyPost_ret (v := .tuple #[defV noDef, .int .i64 0]) (by simp [results, Tryz.results13, go_sem, y0, y1, y2, y3, y4, defV, noDef]) rfl ⟨rfl, ?_⟩
  go_grown

set_option maxHeartbeats 4000000 in
set_option maxRecDepth 100000 in
theorem Rdef_no4 (s : ByteArray) (a n : Nat) (w : World) (hs : s.size ≤ 150000) (hn : 0 < n) (hb : a + n < s.size ∧ ∀ h : a + n < s.size, (s[a + n] == 58) = true) (f k : Nat) (hf : f ≤ s.size) (hk : k = 0) (L d : ByteArray) (hlc : ∀ w, Calls Tryz.prog 7 #[.string s, .int .i64 (a : Nat)] w fun e w' => e = .returned (.tuple #[.string L, .int .i64 (n : Nat)]) ∧ Below w.heap.size w w') (hgc : ∀ w, Calls Tryz.prog 27 #[.string s, .int .i64 ((a + n + 1 : Nat) : Int)] w fun e w' => e = .returned (.int .i64 (f : Nat)) ∧ Below w.heap.size w w') (hdc : ∀ w, Calls Tryz.prog 9 #[.string s, .int .i64 (f : Nat)] w fun e w' => e = .returned (.tuple #[.string d, .int .i64 (k : Nat)]) ∧ Below w.heap.size w w') :
    Calls Tryz.prog 13 #[.string s, .int .i64 (a : Nat)] w fun e w' =>  e = .returned (.tuple #[defV noDef, .int .i64 0]) ∧ Below w.heap.size w w' := by
  have i0 : (0 : Int) ≤ (a : Int) + (n : Int) := by omega
  have d0 : ((n : Int) == 0) = false := beq_eq_false_iff_ne.2 (by omega)
  have e1 : IntKind.i64.wrap ((a : Int) + (n : Int)) = ((a + n : Nat) : Int) := by rw [IntWalk.i64_in _ (by omega)]; omega
  have hlt : a + n < s.size := hb.1
  have i1 : ((a + n : Nat) : Int) < (s.size : Int) := by omega
  have i2 : (0 : Int) ≤ ((a + n : Nat) : Int) := by omega
  have dl : decide ((s.size : Int) ≤ ((a + n : Nat) : Int)) = false := decide_eq_false (by omega)
  have dl' : decide (s.size ≤ a + n) = false := decide_eq_false (by omega)
  have ul : ((s[a + n].toNat : Int) != 58) = false := by rw [show ((s[a + n].toNat : Int) != 58) = !(s[a + n] == 58) from nb s[a + n] 58, hb.2 hlt]; rfl
  have e2 : IntKind.i64.wrap (((a + n : Nat) : Int) + 1) = ((a + n + 1 : Nat) : Int) := by rw [IntWalk.i64_in _ (by omega)]; omega
  have dk : ((k : Int) == 0) = true := beq_iff_eq.2 (by omega)
  have df : decide ((f : Int) < 0) = false := decide_eq_false (by omega)
  clear hb
  go_enter Tryz.func13, Tryz.ntmps13
  go_wp2_with fail
  have hB := (Below.refl w.heap.size w).alloc (Nat.le_refl _) (.cells #[.string ⟨#[]⟩, .string ⟨#[]⟩, .string ⟨#[]⟩, .int .i64 0, .int .i64 0] 27)
  have Q := heap_alloc_new w (.cells #[.string ⟨#[]⟩, .string ⟨#[]⟩, .string ⟨#[]⟩, .int .i64 0, .int .i64 0] 27)
  generalize w.alloc (.cells #[.string ⟨#[]⟩, .string ⟨#[]⟩, .string ⟨#[]⟩, .int .i64 0, .int .i64 0] 27) = W at *
  refine (hlc _).mono ?_
  rintro e w1 ⟨rfl, hB1⟩
  replace Q := below_block hB1 (blk_lt Q) Q
  replace hB := hB.trans (hB1.mono hB.size)
  clear hB1
  go_wp2_with fail
  refine (hgc _).mono ?_
  rintro e w3 ⟨rfl, hB1⟩
  replace Q := below_block hB1 (blk_lt Q) Q
  replace hB := hB.trans (hB1.mono hB.size)
  clear hB1
  go_wp2_with fail
  refine (hdc _).mono ?_
  rintro e w4 ⟨rfl, hB1⟩
  replace Q := below_block hB1 (blk_lt Q) Q
  replace hB := hB.trans (hB1.mono hB.size)
  clear hB1
  have y0 := blk_cell Q 0
  have y1 := blk_cell Q 1
  have y2 := blk_cell Q 2
  have y3 := blk_cell Q 3
  have y4 := blk_cell Q 4
  have z0 := blk_free Q 0
  have z1 := blk_free Q 1
  have z2 := blk_free Q 2
  have z3 := blk_free Q 3
  have z4 := blk_free Q 4
  simp at y0 y1 y2 y3 y4
  go_wp2_with fail
  refine bodyPost_ret (v := .tuple #[defV noDef, .int .i64 0]) (by simp [results, Tryz.results13, go_sem, y0, y1, y2, y3, y4, defV, noDef]) rfl ⟨rfl, ?_⟩
  go_grown

set_option maxHeartbeats 4000000 in
set_option maxRecDepth 100000 in
theorem Rdef_A_bad (s : ByteArray) (a n : Nat) (w : World) (hs : s.size ≤ 150000) (hn : 0 < n) (hb : a + n < s.size ∧ ∀ h : a + n < s.size, (s[a + n] == 58) = true) (f k q : Nat) (hf : f ≤ s.size) (hk : 0 < k) (hq : f + k = q) (hqs : q ≤ s.size) (L d F : ByteArray) (R G : Int) (hR : R < 0) (hG : G ≤ q) (hlc : ∀ w, Calls Tryz.prog 7 #[.string s, .int .i64 (a : Nat)] w fun e w' => e = .returned (.tuple #[.string L, .int .i64 (n : Nat)]) ∧ Below w.heap.size w w') (hgc : ∀ w, Calls Tryz.prog 27 #[.string s, .int .i64 ((a + n + 1 : Nat) : Int)] w fun e w' => e = .returned (.int .i64 (f : Nat)) ∧ Below w.heap.size w w') (hdc : ∀ w, Calls Tryz.prog 9 #[.string s, .int .i64 (f : Nat)] w fun e w' => e = .returned (.tuple #[.string d, .int .i64 (k : Nat)]) ∧ Below w.heap.size w w') (hfc : ∀ w, Calls Tryz.prog 28 #[.string L] w fun e w' => e = .returned (.string F) ∧ Below w.heap.size w w') (hpc : ∀ w, Calls Tryz.prog 29 #[.string s, .int .i64 (q : Nat)] w fun e w' => e = .returned (.int .i64 R) ∧ w' = w) (hbc : ∀ w, Calls Tryz.prog 27 #[.string s, .int .i64 (q : Nat)] w fun e w' => e = .returned (.int .i64 G) ∧ Below w.heap.size w w') :
    Calls Tryz.prog 13 #[.string s, .int .i64 (a : Nat)] w fun e w' =>  e = .returned (.tuple #[defV noDef, .int .i64 0]) ∧ Below w.heap.size w w' := by
  have i0 : (0 : Int) ≤ (a : Int) + (n : Int) := by omega
  have d0 : ((n : Int) == 0) = false := beq_eq_false_iff_ne.2 (by omega)
  have e1 : IntKind.i64.wrap ((a : Int) + (n : Int)) = ((a + n : Nat) : Int) := by rw [IntWalk.i64_in _ (by omega)]; omega
  have hlt : a + n < s.size := hb.1
  have i1 : ((a + n : Nat) : Int) < (s.size : Int) := by omega
  have i2 : (0 : Int) ≤ ((a + n : Nat) : Int) := by omega
  have dl : decide ((s.size : Int) ≤ ((a + n : Nat) : Int)) = false := decide_eq_false (by omega)
  have dl' : decide (s.size ≤ a + n) = false := decide_eq_false (by omega)
  have ul : ((s[a + n].toNat : Int) != 58) = false := by rw [show ((s[a + n].toNat : Int) != 58) = !(s[a + n] == 58) from nb s[a + n] 58, hb.2 hlt]; rfl
  have e2 : IntKind.i64.wrap (((a + n : Nat) : Int) + 1) = ((a + n + 1 : Nat) : Int) := by rw [IntWalk.i64_in _ (by omega)]; omega
  have dk : ((k : Int) == 0) = false := beq_eq_false_iff_ne.2 (by omega)
  have df : decide ((f : Int) < 0) = false := decide_eq_false (by omega)
  have e3 : IntKind.i64.wrap ((f : Int) + (k : Int)) = (q : Int) := by rw [IntWalk.i64_in _ (by omega)]; omega
  have dR : decide (R < 0) = true := decide_eq_true (by omega)
  have dG : decide ((q : Int) < G) = false := decide_eq_false (by omega)
  clear hb hq hR
  go_enter Tryz.func13, Tryz.ntmps13
  go_wp2_with fail
  have hB := (Below.refl w.heap.size w).alloc (Nat.le_refl _) (.cells #[.string ⟨#[]⟩, .string ⟨#[]⟩, .string ⟨#[]⟩, .int .i64 0, .int .i64 0] 27)
  have Q := heap_alloc_new w (.cells #[.string ⟨#[]⟩, .string ⟨#[]⟩, .string ⟨#[]⟩, .int .i64 0, .int .i64 0] 27)
  generalize w.alloc (.cells #[.string ⟨#[]⟩, .string ⟨#[]⟩, .string ⟨#[]⟩, .int .i64 0, .int .i64 0] 27) = W at *
  refine (hlc _).mono ?_
  rintro e w1 ⟨rfl, hB1⟩
  replace Q := below_block hB1 (blk_lt Q) Q
  replace hB := hB.trans (hB1.mono hB.size)
  clear hB1
  go_wp2_with fail
  refine (hgc _).mono ?_
  rintro e w3 ⟨rfl, hB1⟩
  replace Q := below_block hB1 (blk_lt Q) Q
  replace hB := hB.trans (hB1.mono hB.size)
  clear hB1
  go_wp2_with fail
  refine (hdc _).mono ?_
  rintro e w4 ⟨rfl, hB1⟩
  replace Q := below_block hB1 (blk_lt Q) Q
  replace hB := hB.trans (hB1.mono hB.size)
  clear hB1
  go_wp2_with fail
  refine (hfc _).mono ?_
  rintro e w5 ⟨rfl, hB1⟩
  replace Q := below_block hB1 (blk_lt Q) Q
  replace hB := hB.trans (hB1.mono hB.size)
  clear hB1
  go_wp2_with fail
  have K := heap_alloc_new w5 (.cells #[.string F, .string d, .string ⟨#[]⟩, .int .i64 (a : Nat), .int .i64 (q : Nat)] 27)
  have hz5 := hB.size
  have hQz := blk_lt Q
  have hB1 := (Below.refl w5.heap.size w5).alloc (Nat.le_refl _) (.cells #[.string F, .string d, .string ⟨#[]⟩, .int .i64 (a : Nat), .int .i64 (q : Nat)] 27)
  replace Q := below_block hB1 hQz Q
  replace hB := hB.trans (hB1.mono hz5)
  have hne : w5.heap.size ≠ w.heap.size := by omega
  clear hB1
  generalize w5.alloc (.cells #[.string F, .string d, .string ⟨#[]⟩, .int .i64 (a : Nat), .int .i64 (q : Nat)] 27) = W5 at *
  generalize w5.heap.size = b at *
  have k0 := blk_cell K 0
  have k1 := blk_cell K 1
  have k2 := blk_cell K 2
  have k3 := blk_cell K 3
  have k4 := blk_cell K 4
  have m0 := blk_free K 0
  have m1 := blk_free K 1
  have m2 := blk_free K 2
  have m3 := blk_free K 3
  have m4 := blk_free K 4
  simp at k0 k1 k2 k3 k4
  go_wp2_with fail
  refine (hpc _).mono ?_
  rintro e w6 ⟨rfl, rfl⟩
  go_wp2_with fail
  refine (hbc _).mono ?_
  rintro e w7 ⟨rfl, hB1⟩
  replace Q := below_block hB1 (blk_lt Q) Q
  replace K := below_block hB1 (blk_lt K) K
  replace hB := hB.trans (hB1.mono hB.size)
  clear hB1
  clear k0 k1 k2 k3 k4 m0 m1 m2 m3 m4
  have k0 := blk_cell K 0
  have k1 := blk_cell K 1
  have k2 := blk_cell K 2
  have k3 := blk_cell K 3
  have k4 := blk_cell K 4
  have m0 := blk_free K 0
  have m1 := blk_free K 1
  have m2 := blk_free K 2
  have m3 := blk_free K 3
  have m4 := blk_free K 4
  simp at k0 k1 k2 k3 k4
  have y0 := blk_cell Q 0
  have y1 := blk_cell Q 1
  have y2 := blk_cell Q 2
  have y3 := blk_cell Q 3
  have y4 := blk_cell Q 4
  have z0 := blk_free Q 0
  have z1 := blk_free Q 1
  have z2 := blk_free Q 2
  have z3 := blk_free Q 3
  have z4 := blk_free Q 4
  simp at y0 y1 y2 y3 y4
  have hne2 := hne.symm
  go_wp2_with fail
  refine bodyPost_ret (v := .tuple #[defV noDef, .int .i64 0]) (by simp [results, Tryz.results13, go_sem, defV, noDef, y0, y1, y2, y3, y4, k0, k1, k2, k3, k4, hne, hne2]) rfl ⟨rfl, ?_⟩
  go_grown

set_option maxHeartbeats 4000000 in
set_option maxRecDepth 100000 in
theorem Rdef_B_bad (s : ByteArray) (a n : Nat) (w : World) (hs : s.size ≤ 150000) (hn : 0 < n) (hb : a + n < s.size ∧ ∀ h : a + n < s.size, (s[a + n] == 58) = true) (f k q : Nat) (hf : f ≤ s.size) (hk : 0 < k) (hq : f + k = q) (hqs : q ≤ s.size) (L d F T : ByteArray) (R : Int) (g t : Nat) (hR : R < 0) (hG : q < g) (ht : t = 0) (hlc : ∀ w, Calls Tryz.prog 7 #[.string s, .int .i64 (a : Nat)] w fun e w' => e = .returned (.tuple #[.string L, .int .i64 (n : Nat)]) ∧ Below w.heap.size w w') (hgc : ∀ w, Calls Tryz.prog 27 #[.string s, .int .i64 ((a + n + 1 : Nat) : Int)] w fun e w' => e = .returned (.int .i64 (f : Nat)) ∧ Below w.heap.size w w') (hdc : ∀ w, Calls Tryz.prog 9 #[.string s, .int .i64 (f : Nat)] w fun e w' => e = .returned (.tuple #[.string d, .int .i64 (k : Nat)]) ∧ Below w.heap.size w w') (hfc : ∀ w, Calls Tryz.prog 28 #[.string L] w fun e w' => e = .returned (.string F) ∧ Below w.heap.size w w') (hpc : ∀ w, Calls Tryz.prog 29 #[.string s, .int .i64 (q : Nat)] w fun e w' => e = .returned (.int .i64 R) ∧ w' = w) (hbc : ∀ w, Calls Tryz.prog 27 #[.string s, .int .i64 (q : Nat)] w fun e w' => e = .returned (.int .i64 (g : Nat)) ∧ Below w.heap.size w w') (htc : ∀ w, Calls Tryz.prog 11 #[.string s, .int .i64 (g : Nat)] w fun e w' => e = .returned (.tuple #[.string T, .int .i64 (t : Nat)]) ∧ Below w.heap.size w w') :
    Calls Tryz.prog 13 #[.string s, .int .i64 (a : Nat)] w fun e w' =>  e = .returned (.tuple #[defV noDef, .int .i64 0]) ∧ Below w.heap.size w w' := by
  have i0 : (0 : Int) ≤ (a : Int) + (n : Int) := by omega
  have d0 : ((n : Int) == 0) = false := beq_eq_false_iff_ne.2 (by omega)
  have e1 : IntKind.i64.wrap ((a : Int) + (n : Int)) = ((a + n : Nat) : Int) := by rw [IntWalk.i64_in _ (by omega)]; omega
  have hlt : a + n < s.size := hb.1
  have i1 : ((a + n : Nat) : Int) < (s.size : Int) := by omega
  have i2 : (0 : Int) ≤ ((a + n : Nat) : Int) := by omega
  have dl : decide ((s.size : Int) ≤ ((a + n : Nat) : Int)) = false := decide_eq_false (by omega)
  have dl' : decide (s.size ≤ a + n) = false := decide_eq_false (by omega)
  have ul : ((s[a + n].toNat : Int) != 58) = false := by rw [show ((s[a + n].toNat : Int) != 58) = !(s[a + n] == 58) from nb s[a + n] 58, hb.2 hlt]; rfl
  have e2 : IntKind.i64.wrap (((a + n : Nat) : Int) + 1) = ((a + n + 1 : Nat) : Int) := by rw [IntWalk.i64_in _ (by omega)]; omega
  have dk : ((k : Int) == 0) = false := beq_eq_false_iff_ne.2 (by omega)
  have df : decide ((f : Int) < 0) = false := decide_eq_false (by omega)
  have e3 : IntKind.i64.wrap ((f : Int) + (k : Int)) = (q : Int) := by rw [IntWalk.i64_in _ (by omega)]; omega
  have dR : decide (R < 0) = true := decide_eq_true (by omega)
  have dG : decide ((q : Int) < (g : Int)) = true := decide_eq_true (by omega)
  have dt : decide ((0 : Int) < (t : Int)) = false := decide_eq_false (by omega)
  clear hb hq hR
  go_enter Tryz.func13, Tryz.ntmps13
  go_wp2_with fail
  have hB := (Below.refl w.heap.size w).alloc (Nat.le_refl _) (.cells #[.string ⟨#[]⟩, .string ⟨#[]⟩, .string ⟨#[]⟩, .int .i64 0, .int .i64 0] 27)
  have Q := heap_alloc_new w (.cells #[.string ⟨#[]⟩, .string ⟨#[]⟩, .string ⟨#[]⟩, .int .i64 0, .int .i64 0] 27)
  generalize w.alloc (.cells #[.string ⟨#[]⟩, .string ⟨#[]⟩, .string ⟨#[]⟩, .int .i64 0, .int .i64 0] 27) = W at *
  refine (hlc _).mono ?_
  rintro e w1 ⟨rfl, hB1⟩
  replace Q := below_block hB1 (blk_lt Q) Q
  replace hB := hB.trans (hB1.mono hB.size)
  clear hB1
  go_wp2_with fail
  refine (hgc _).mono ?_
  rintro e w3 ⟨rfl, hB1⟩
  replace Q := below_block hB1 (blk_lt Q) Q
  replace hB := hB.trans (hB1.mono hB.size)
  clear hB1
  go_wp2_with fail
  refine (hdc _).mono ?_
  rintro e w4 ⟨rfl, hB1⟩
  replace Q := below_block hB1 (blk_lt Q) Q
  replace hB := hB.trans (hB1.mono hB.size)
  clear hB1
  go_wp2_with fail
  refine (hfc _).mono ?_
  rintro e w5 ⟨rfl, hB1⟩
  replace Q := below_block hB1 (blk_lt Q) Q
  replace hB := hB.trans (hB1.mono hB.size)
  clear hB1
  go_wp2_with fail
  have K := heap_alloc_new w5 (.cells #[.string F, .string d, .string ⟨#[]⟩, .int .i64 (a : Nat), .int .i64 (q : Nat)] 27)
  have hz5 := hB.size
  have hQz := blk_lt Q
  have hB1 := (Below.refl w5.heap.size w5).alloc (Nat.le_refl _) (.cells #[.string F, .string d, .string ⟨#[]⟩, .int .i64 (a : Nat), .int .i64 (q : Nat)] 27)
  replace Q := below_block hB1 hQz Q
  replace hB := hB.trans (hB1.mono hz5)
  have hne : w5.heap.size ≠ w.heap.size := by omega
  clear hB1
  generalize w5.alloc (.cells #[.string F, .string d, .string ⟨#[]⟩, .int .i64 (a : Nat), .int .i64 (q : Nat)] 27) = W5 at *
  generalize w5.heap.size = b at *
  have k0 := blk_cell K 0
  have k1 := blk_cell K 1
  have k2 := blk_cell K 2
  have k3 := blk_cell K 3
  have k4 := blk_cell K 4
  have m0 := blk_free K 0
  have m1 := blk_free K 1
  have m2 := blk_free K 2
  have m3 := blk_free K 3
  have m4 := blk_free K 4
  simp at k0 k1 k2 k3 k4
  go_wp2_with fail
  refine (hpc _).mono ?_
  rintro e w6 ⟨rfl, rfl⟩
  go_wp2_with fail
  refine (hbc _).mono ?_
  rintro e w7 ⟨rfl, hB1⟩
  replace Q := below_block hB1 (blk_lt Q) Q
  replace K := below_block hB1 (blk_lt K) K
  replace hB := hB.trans (hB1.mono hB.size)
  clear hB1
  clear k0 k1 k2 k3 k4 m0 m1 m2 m3 m4
  have k0 := blk_cell K 0
  have k1 := blk_cell K 1
  have k2 := blk_cell K 2
  have k3 := blk_cell K 3
  have k4 := blk_cell K 4
  have m0 := blk_free K 0
  have m1 := blk_free K 1
  have m2 := blk_free K 2
  have m3 := blk_free K 3
  have m4 := blk_free K 4
  simp at k0 k1 k2 k3 k4
  go_wp2_with fail
  refine (htc _).mono ?_
  rintro e w8 ⟨rfl, hB1⟩
  replace Q := below_block hB1 (blk_lt Q) Q
  replace K := below_block hB1 (blk_lt K) K
  replace hB := hB.trans (hB1.mono hB.size)
  clear hB1
  clear k0 k1 k2 k3 k4 m0 m1 m2 m3 m4
  have k0 := blk_cell K 0
  have k1 := blk_cell K 1
  have k2 := blk_cell K 2
  have k3 := blk_cell K 3
  have k4 := blk_cell K 4
  have m0 := blk_free K 0
  have m1 := blk_free K 1
  have m2 := blk_free K 2
  have m3 := blk_free K 3
  have m4 := blk_free K 4
  simp at k0 k1 k2 k3 k4
  have y0 := blk_cell Q 0
  have y1 := blk_cell Q 1
  have y2 := blk_cell Q 2
  have y3 := blk_cell Q 3
  have y4 := blk_cell Q 4
  have z0 := blk_free Q 0
  have z1 := blk_free Q 1
  have z2 := blk_free Q 2
  have z3 := blk_free Q 3
  have z4 := blk_free Q 4
  simp at y0 y1 y2 y3 y4
  have hne2 := hne.symm
  go_wp2_with fail
  refine bodyPost_ret (v := .tuple #[defV noDef, .int .i64 0]) (by simp [results, Tryz.results13, go_sem, defV, noDef, y0, y1, y2, y3, y4, k0, k1, k2, k3, k4, hne, hne2]) rfl ⟨rfl, ?_⟩
  go_grown

set_option maxHeartbeats 4000000 in
set_option maxRecDepth 100000 in
theorem Rdef_C_bad (s : ByteArray) (a n : Nat) (w : World) (hs : s.size ≤ 150000) (hn : 0 < n) (hb : a + n < s.size ∧ ∀ h : a + n < s.size, (s[a + n] == 58) = true) (f k q : Nat) (hf : f ≤ s.size) (hk : 0 < k) (hq : f + k = q) (hqs : q ≤ s.size) (L d F T : ByteArray) (R V : Int) (g t : Nat) (hR : R < 0) (hG : q < g) (ht : 0 < t) (hgt : g + t ≤ s.size) (hV : V < 0) (hlc : ∀ w, Calls Tryz.prog 7 #[.string s, .int .i64 (a : Nat)] w fun e w' => e = .returned (.tuple #[.string L, .int .i64 (n : Nat)]) ∧ Below w.heap.size w w') (hgc : ∀ w, Calls Tryz.prog 27 #[.string s, .int .i64 ((a + n + 1 : Nat) : Int)] w fun e w' => e = .returned (.int .i64 (f : Nat)) ∧ Below w.heap.size w w') (hdc : ∀ w, Calls Tryz.prog 9 #[.string s, .int .i64 (f : Nat)] w fun e w' => e = .returned (.tuple #[.string d, .int .i64 (k : Nat)]) ∧ Below w.heap.size w w') (hfc : ∀ w, Calls Tryz.prog 28 #[.string L] w fun e w' => e = .returned (.string F) ∧ Below w.heap.size w w') (hpc : ∀ w, Calls Tryz.prog 29 #[.string s, .int .i64 (q : Nat)] w fun e w' => e = .returned (.int .i64 R) ∧ w' = w) (hbc : ∀ w, Calls Tryz.prog 27 #[.string s, .int .i64 (q : Nat)] w fun e w' => e = .returned (.int .i64 (g : Nat)) ∧ Below w.heap.size w w') (htc : ∀ w, Calls Tryz.prog 11 #[.string s, .int .i64 (g : Nat)] w fun e w' => e = .returned (.tuple #[.string T, .int .i64 (t : Nat)]) ∧ Below w.heap.size w w') (hec : ∀ w, Calls Tryz.prog 29 #[.string s, .int .i64 ((g + t : Nat) : Int)] w fun e w' => e = .returned (.int .i64 V) ∧ w' = w) :
    Calls Tryz.prog 13 #[.string s, .int .i64 (a : Nat)] w fun e w' =>  e = .returned (.tuple #[defV noDef, .int .i64 0]) ∧ Below w.heap.size w w' := by
  have i0 : (0 : Int) ≤ (a : Int) + (n : Int) := by omega
  have d0 : ((n : Int) == 0) = false := beq_eq_false_iff_ne.2 (by omega)
  have e1 : IntKind.i64.wrap ((a : Int) + (n : Int)) = ((a + n : Nat) : Int) := by rw [IntWalk.i64_in _ (by omega)]; omega
  have hlt : a + n < s.size := hb.1
  have i1 : ((a + n : Nat) : Int) < (s.size : Int) := by omega
  have i2 : (0 : Int) ≤ ((a + n : Nat) : Int) := by omega
  have dl : decide ((s.size : Int) ≤ ((a + n : Nat) : Int)) = false := decide_eq_false (by omega)
  have dl' : decide (s.size ≤ a + n) = false := decide_eq_false (by omega)
  have ul : ((s[a + n].toNat : Int) != 58) = false := by rw [show ((s[a + n].toNat : Int) != 58) = !(s[a + n] == 58) from nb s[a + n] 58, hb.2 hlt]; rfl
  have e2 : IntKind.i64.wrap (((a + n : Nat) : Int) + 1) = ((a + n + 1 : Nat) : Int) := by rw [IntWalk.i64_in _ (by omega)]; omega
  have dk : ((k : Int) == 0) = false := beq_eq_false_iff_ne.2 (by omega)
  have df : decide ((f : Int) < 0) = false := decide_eq_false (by omega)
  have e3 : IntKind.i64.wrap ((f : Int) + (k : Int)) = (q : Int) := by rw [IntWalk.i64_in _ (by omega)]; omega
  have dR : decide (R < 0) = true := decide_eq_true (by omega)
  have dG : decide ((q : Int) < (g : Int)) = true := decide_eq_true (by omega)
  have dt : decide ((0 : Int) < (t : Int)) = true := decide_eq_true (by omega)
  have dV : decide ((0 : Int) ≤ V) = false := decide_eq_false (by omega)
  have eg : IntKind.i64.wrap ((g : Int) + (t : Int)) = ((g + t : Nat) : Int) := by rw [IntWalk.i64_in _ (by omega)]; omega
  clear hb hq hR hV
  go_enter Tryz.func13, Tryz.ntmps13
  go_wp2_with fail
  have hB := (Below.refl w.heap.size w).alloc (Nat.le_refl _) (.cells #[.string ⟨#[]⟩, .string ⟨#[]⟩, .string ⟨#[]⟩, .int .i64 0, .int .i64 0] 27)
  have Q := heap_alloc_new w (.cells #[.string ⟨#[]⟩, .string ⟨#[]⟩, .string ⟨#[]⟩, .int .i64 0, .int .i64 0] 27)
  generalize w.alloc (.cells #[.string ⟨#[]⟩, .string ⟨#[]⟩, .string ⟨#[]⟩, .int .i64 0, .int .i64 0] 27) = W at *
  refine (hlc _).mono ?_
  rintro e w1 ⟨rfl, hB1⟩
  replace Q := below_block hB1 (blk_lt Q) Q
  replace hB := hB.trans (hB1.mono hB.size)
  clear hB1
  go_wp2_with fail
  refine (hgc _).mono ?_
  rintro e w3 ⟨rfl, hB1⟩
  replace Q := below_block hB1 (blk_lt Q) Q
  replace hB := hB.trans (hB1.mono hB.size)
  clear hB1
  go_wp2_with fail
  refine (hdc _).mono ?_
  rintro e w4 ⟨rfl, hB1⟩
  replace Q := below_block hB1 (blk_lt Q) Q
  replace hB := hB.trans (hB1.mono hB.size)
  clear hB1
  go_wp2_with fail
  refine (hfc _).mono ?_
  rintro e w5 ⟨rfl, hB1⟩
  replace Q := below_block hB1 (blk_lt Q) Q
  replace hB := hB.trans (hB1.mono hB.size)
  clear hB1
  go_wp2_with fail
  have K := heap_alloc_new w5 (.cells #[.string F, .string d, .string ⟨#[]⟩, .int .i64 (a : Nat), .int .i64 (q : Nat)] 27)
  have hz5 := hB.size
  have hQz := blk_lt Q
  have hB1 := (Below.refl w5.heap.size w5).alloc (Nat.le_refl _) (.cells #[.string F, .string d, .string ⟨#[]⟩, .int .i64 (a : Nat), .int .i64 (q : Nat)] 27)
  replace Q := below_block hB1 hQz Q
  replace hB := hB.trans (hB1.mono hz5)
  have hne : w5.heap.size ≠ w.heap.size := by omega
  clear hB1
  generalize w5.alloc (.cells #[.string F, .string d, .string ⟨#[]⟩, .int .i64 (a : Nat), .int .i64 (q : Nat)] 27) = W5 at *
  generalize w5.heap.size = b at *
  have k0 := blk_cell K 0
  have k1 := blk_cell K 1
  have k2 := blk_cell K 2
  have k3 := blk_cell K 3
  have k4 := blk_cell K 4
  have m0 := blk_free K 0
  have m1 := blk_free K 1
  have m2 := blk_free K 2
  have m3 := blk_free K 3
  have m4 := blk_free K 4
  simp at k0 k1 k2 k3 k4
  go_wp2_with fail
  refine (hpc _).mono ?_
  rintro e w6 ⟨rfl, rfl⟩
  go_wp2_with fail
  refine (hbc _).mono ?_
  rintro e w7 ⟨rfl, hB1⟩
  replace Q := below_block hB1 (blk_lt Q) Q
  replace K := below_block hB1 (blk_lt K) K
  replace hB := hB.trans (hB1.mono hB.size)
  clear hB1
  clear k0 k1 k2 k3 k4 m0 m1 m2 m3 m4
  have k0 := blk_cell K 0
  have k1 := blk_cell K 1
  have k2 := blk_cell K 2
  have k3 := blk_cell K 3
  have k4 := blk_cell K 4
  have m0 := blk_free K 0
  have m1 := blk_free K 1
  have m2 := blk_free K 2
  have m3 := blk_free K 3
  have m4 := blk_free K 4
  simp at k0 k1 k2 k3 k4
  go_wp2_with fail
  refine (htc _).mono ?_
  rintro e w8 ⟨rfl, hB1⟩
  replace Q := below_block hB1 (blk_lt Q) Q
  replace K := below_block hB1 (blk_lt K) K
  replace hB := hB.trans (hB1.mono hB.size)
  clear hB1
  clear k0 k1 k2 k3 k4 m0 m1 m2 m3 m4
  have k0 := blk_cell K 0
  have k1 := blk_cell K 1
  have k2 := blk_cell K 2
  have k3 := blk_cell K 3
  have k4 := blk_cell K 4
  have m0 := blk_free K 0
  have m1 := blk_free K 1
  have m2 := blk_free K 2
  have m3 := blk_free K 3
  have m4 := blk_free K 4
  simp at k0 k1 k2 k3 k4
  go_wp2_with fail
  refine (hec _).mono ?_
  rintro e w6 ⟨rfl, rfl⟩
  have y0 := blk_cell Q 0
  have y1 := blk_cell Q 1
  have y2 := blk_cell Q 2
  have y3 := blk_cell Q 3
  have y4 := blk_cell Q 4
  have z0 := blk_free Q 0
  have z1 := blk_free Q 1
  have z2 := blk_free Q 2
  have z3 := blk_free Q 3
  have z4 := blk_free Q 4
  simp at y0 y1 y2 y3 y4
  have hne2 := hne.symm
  go_wp2_with fail
  refine bodyPost_ret (v := .tuple #[defV noDef, .int .i64 0]) (by simp [results, Tryz.results13, go_sem, defV, noDef, y0, y1, y2, y3, y4, k0, k1, k2, k3, k4, hne, hne2]) rfl ⟨rfl, ?_⟩
  go_grown

set_option maxHeartbeats 4000000 in
set_option maxRecDepth 100000 in
theorem Rdef_A_ok (s : ByteArray) (a n : Nat) (w : World) (hs : s.size ≤ 150000) (hn : 0 < n) (hb : a + n < s.size ∧ ∀ h : a + n < s.size, (s[a + n] == 58) = true) (f k q : Nat) (hf : f ≤ s.size) (hk : 0 < k) (hq : f + k = q) (hqs : q ≤ s.size) (L d F : ByteArray) (R G : Int) (hR : 0 ≤ R ∧ R ≤ 150000) (hG : G ≤ q) (hlc : ∀ w, Calls Tryz.prog 7 #[.string s, .int .i64 (a : Nat)] w fun e w' => e = .returned (.tuple #[.string L, .int .i64 (n : Nat)]) ∧ Below w.heap.size w w') (hgc : ∀ w, Calls Tryz.prog 27 #[.string s, .int .i64 ((a + n + 1 : Nat) : Int)] w fun e w' => e = .returned (.int .i64 (f : Nat)) ∧ Below w.heap.size w w') (hdc : ∀ w, Calls Tryz.prog 9 #[.string s, .int .i64 (f : Nat)] w fun e w' => e = .returned (.tuple #[.string d, .int .i64 (k : Nat)]) ∧ Below w.heap.size w w') (hfc : ∀ w, Calls Tryz.prog 28 #[.string L] w fun e w' => e = .returned (.string F) ∧ Below w.heap.size w w') (hpc : ∀ w, Calls Tryz.prog 29 #[.string s, .int .i64 (q : Nat)] w fun e w' => e = .returned (.int .i64 R) ∧ w' = w) (hbc : ∀ w, Calls Tryz.prog 27 #[.string s, .int .i64 (q : Nat)] w fun e w' => e = .returned (.int .i64 G) ∧ Below w.heap.size w w') :
    Calls Tryz.prog 13 #[.string s, .int .i64 (a : Nat)] w fun e w' =>  e = .returned (.tuple #[.agg #[.string F, .string d, .string ⟨#[]⟩, .int .i64 (a : Nat), .int .i64 (q : Nat)], .int .i64 (R - a)]) ∧ Below w.heap.size w w' := by
  have i0 : (0 : Int) ≤ (a : Int) + (n : Int) := by omega
  have d0 : ((n : Int) == 0) = false := beq_eq_false_iff_ne.2 (by omega)
  have e1 : IntKind.i64.wrap ((a : Int) + (n : Int)) = ((a + n : Nat) : Int) := by rw [IntWalk.i64_in _ (by omega)]; omega
  have hlt : a + n < s.size := hb.1
  have i1 : ((a + n : Nat) : Int) < (s.size : Int) := by omega
  have i2 : (0 : Int) ≤ ((a + n : Nat) : Int) := by omega
  have dl : decide ((s.size : Int) ≤ ((a + n : Nat) : Int)) = false := decide_eq_false (by omega)
  have dl' : decide (s.size ≤ a + n) = false := decide_eq_false (by omega)
  have ul : ((s[a + n].toNat : Int) != 58) = false := by rw [show ((s[a + n].toNat : Int) != 58) = !(s[a + n] == 58) from nb s[a + n] 58, hb.2 hlt]; rfl
  have e2 : IntKind.i64.wrap (((a + n : Nat) : Int) + 1) = ((a + n + 1 : Nat) : Int) := by rw [IntWalk.i64_in _ (by omega)]; omega
  have dk : ((k : Int) == 0) = false := beq_eq_false_iff_ne.2 (by omega)
  have df : decide ((f : Int) < 0) = false := decide_eq_false (by omega)
  have e3 : IntKind.i64.wrap ((f : Int) + (k : Int)) = (q : Int) := by rw [IntWalk.i64_in _ (by omega)]; omega
  have dR : decide (R < 0) = false := decide_eq_false (by omega)
  have eR : IntKind.i64.wrap (R - (a : Int)) = R - (a : Int) := IntWalk.i64_in _ (by omega)
  have dG : decide ((q : Int) < G) = false := decide_eq_false (by omega)
  clear hb hq hR
  go_enter Tryz.func13, Tryz.ntmps13
  go_wp2_with fail
  have hB := (Below.refl w.heap.size w).alloc (Nat.le_refl _) (.cells #[.string ⟨#[]⟩, .string ⟨#[]⟩, .string ⟨#[]⟩, .int .i64 0, .int .i64 0] 27)
  have Q := heap_alloc_new w (.cells #[.string ⟨#[]⟩, .string ⟨#[]⟩, .string ⟨#[]⟩, .int .i64 0, .int .i64 0] 27)
  generalize w.alloc (.cells #[.string ⟨#[]⟩, .string ⟨#[]⟩, .string ⟨#[]⟩, .int .i64 0, .int .i64 0] 27) = W at *
  refine (hlc _).mono ?_
  rintro e w1 ⟨rfl, hB1⟩
  replace Q := below_block hB1 (blk_lt Q) Q
  replace hB := hB.trans (hB1.mono hB.size)
  clear hB1
  go_wp2_with fail
  refine (hgc _).mono ?_
  rintro e w3 ⟨rfl, hB1⟩
  replace Q := below_block hB1 (blk_lt Q) Q
  replace hB := hB.trans (hB1.mono hB.size)
  clear hB1
  go_wp2_with fail
  refine (hdc _).mono ?_
  rintro e w4 ⟨rfl, hB1⟩
  replace Q := below_block hB1 (blk_lt Q) Q
  replace hB := hB.trans (hB1.mono hB.size)
  clear hB1
  go_wp2_with fail
  refine (hfc _).mono ?_
  rintro e w5 ⟨rfl, hB1⟩
  replace Q := below_block hB1 (blk_lt Q) Q
  replace hB := hB.trans (hB1.mono hB.size)
  clear hB1
  go_wp2_with fail
  have K := heap_alloc_new w5 (.cells #[.string F, .string d, .string ⟨#[]⟩, .int .i64 (a : Nat), .int .i64 (q : Nat)] 27)
  have hz5 := hB.size
  have hQz := blk_lt Q
  have hB1 := (Below.refl w5.heap.size w5).alloc (Nat.le_refl _) (.cells #[.string F, .string d, .string ⟨#[]⟩, .int .i64 (a : Nat), .int .i64 (q : Nat)] 27)
  replace Q := below_block hB1 hQz Q
  replace hB := hB.trans (hB1.mono hz5)
  have hne : w5.heap.size ≠ w.heap.size := by omega
  clear hB1
  generalize w5.alloc (.cells #[.string F, .string d, .string ⟨#[]⟩, .int .i64 (a : Nat), .int .i64 (q : Nat)] 27) = W5 at *
  generalize w5.heap.size = b at *
  have k0 := blk_cell K 0
  have k1 := blk_cell K 1
  have k2 := blk_cell K 2
  have k3 := blk_cell K 3
  have k4 := blk_cell K 4
  have m0 := blk_free K 0
  have m1 := blk_free K 1
  have m2 := blk_free K 2
  have m3 := blk_free K 3
  have m4 := blk_free K 4
  simp at k0 k1 k2 k3 k4
  go_wp2_with fail
  refine (hpc _).mono ?_
  rintro e w6 ⟨rfl, rfl⟩
  go_wp2_with fail
  refine (hbc _).mono ?_
  rintro e w7 ⟨rfl, hB1⟩
  replace Q := below_block hB1 (blk_lt Q) Q
  replace K := below_block hB1 (blk_lt K) K
  replace hB := hB.trans (hB1.mono hB.size)
  clear hB1
  clear k0 k1 k2 k3 k4 m0 m1 m2 m3 m4
  have k0 := blk_cell K 0
  have k1 := blk_cell K 1
  have k2 := blk_cell K 2
  have k3 := blk_cell K 3
  have k4 := blk_cell K 4
  have m0 := blk_free K 0
  have m1 := blk_free K 1
  have m2 := blk_free K 2
  have m3 := blk_free K 3
  have m4 := blk_free K 4
  simp at k0 k1 k2 k3 k4
  have y0 := blk_cell Q 0
  have y1 := blk_cell Q 1
  have y2 := blk_cell Q 2
  have y3 := blk_cell Q 3
  have y4 := blk_cell Q 4
  have z0 := blk_free Q 0
  have z1 := blk_free Q 1
  have z2 := blk_free Q 2
  have z3 := blk_free Q 3
  have z4 := blk_free Q 4
  simp at y0 y1 y2 y3 y4
  have hne2 := hne.symm
  go_wp2_with fail
  refine bodyPost_ret (v := .tuple #[.agg #[.string F, .string d, .string ⟨#[]⟩, .int .i64 (a : Nat), .int .i64 (q : Nat)], .int .i64 (R - a)]) (by simp [results, Tryz.results13, go_sem, y0, y1, y2, y3, y4, k0, k1, k2, k3, k4, hne, hne2]) rfl ⟨rfl, ?_⟩
  go_grown

set_option maxHeartbeats 4000000 in
set_option maxRecDepth 100000 in
theorem Rdef_B_ok (s : ByteArray) (a n : Nat) (w : World) (hs : s.size ≤ 150000) (hn : 0 < n) (hb : a + n < s.size ∧ ∀ h : a + n < s.size, (s[a + n] == 58) = true) (f k q : Nat) (hf : f ≤ s.size) (hk : 0 < k) (hq : f + k = q) (hqs : q ≤ s.size) (L d F T : ByteArray) (R : Int) (g t : Nat) (hR : 0 ≤ R ∧ R ≤ 150000) (hG : q < g) (ht : t = 0) (hlc : ∀ w, Calls Tryz.prog 7 #[.string s, .int .i64 (a : Nat)] w fun e w' => e = .returned (.tuple #[.string L, .int .i64 (n : Nat)]) ∧ Below w.heap.size w w') (hgc : ∀ w, Calls Tryz.prog 27 #[.string s, .int .i64 ((a + n + 1 : Nat) : Int)] w fun e w' => e = .returned (.int .i64 (f : Nat)) ∧ Below w.heap.size w w') (hdc : ∀ w, Calls Tryz.prog 9 #[.string s, .int .i64 (f : Nat)] w fun e w' => e = .returned (.tuple #[.string d, .int .i64 (k : Nat)]) ∧ Below w.heap.size w w') (hfc : ∀ w, Calls Tryz.prog 28 #[.string L] w fun e w' => e = .returned (.string F) ∧ Below w.heap.size w w') (hpc : ∀ w, Calls Tryz.prog 29 #[.string s, .int .i64 (q : Nat)] w fun e w' => e = .returned (.int .i64 R) ∧ w' = w) (hbc : ∀ w, Calls Tryz.prog 27 #[.string s, .int .i64 (q : Nat)] w fun e w' => e = .returned (.int .i64 (g : Nat)) ∧ Below w.heap.size w w') (htc : ∀ w, Calls Tryz.prog 11 #[.string s, .int .i64 (g : Nat)] w fun e w' => e = .returned (.tuple #[.string T, .int .i64 (t : Nat)]) ∧ Below w.heap.size w w') :
    Calls Tryz.prog 13 #[.string s, .int .i64 (a : Nat)] w fun e w' =>  e = .returned (.tuple #[.agg #[.string F, .string d, .string ⟨#[]⟩, .int .i64 (a : Nat), .int .i64 (q : Nat)], .int .i64 (R - a)]) ∧ Below w.heap.size w w' := by
  have i0 : (0 : Int) ≤ (a : Int) + (n : Int) := by omega
  have d0 : ((n : Int) == 0) = false := beq_eq_false_iff_ne.2 (by omega)
  have e1 : IntKind.i64.wrap ((a : Int) + (n : Int)) = ((a + n : Nat) : Int) := by rw [IntWalk.i64_in _ (by omega)]; omega
  have hlt : a + n < s.size := hb.1
  have i1 : ((a + n : Nat) : Int) < (s.size : Int) := by omega
  have i2 : (0 : Int) ≤ ((a + n : Nat) : Int) := by omega
  have dl : decide ((s.size : Int) ≤ ((a + n : Nat) : Int)) = false := decide_eq_false (by omega)
  have dl' : decide (s.size ≤ a + n) = false := decide_eq_false (by omega)
  have ul : ((s[a + n].toNat : Int) != 58) = false := by rw [show ((s[a + n].toNat : Int) != 58) = !(s[a + n] == 58) from nb s[a + n] 58, hb.2 hlt]; rfl
  have e2 : IntKind.i64.wrap (((a + n : Nat) : Int) + 1) = ((a + n + 1 : Nat) : Int) := by rw [IntWalk.i64_in _ (by omega)]; omega
  have dk : ((k : Int) == 0) = false := beq_eq_false_iff_ne.2 (by omega)
  have df : decide ((f : Int) < 0) = false := decide_eq_false (by omega)
  have e3 : IntKind.i64.wrap ((f : Int) + (k : Int)) = (q : Int) := by rw [IntWalk.i64_in _ (by omega)]; omega
  have dR : decide (R < 0) = false := decide_eq_false (by omega)
  have eR : IntKind.i64.wrap (R - (a : Int)) = R - (a : Int) := IntWalk.i64_in _ (by omega)
  have dG : decide ((q : Int) < (g : Int)) = true := decide_eq_true (by omega)
  have dt : decide ((0 : Int) < (t : Int)) = false := decide_eq_false (by omega)
  clear hb hq hR
  go_enter Tryz.func13, Tryz.ntmps13
  go_wp2_with fail
  have hB := (Below.refl w.heap.size w).alloc (Nat.le_refl _) (.cells #[.string ⟨#[]⟩, .string ⟨#[]⟩, .string ⟨#[]⟩, .int .i64 0, .int .i64 0] 27)
  have Q := heap_alloc_new w (.cells #[.string ⟨#[]⟩, .string ⟨#[]⟩, .string ⟨#[]⟩, .int .i64 0, .int .i64 0] 27)
  generalize w.alloc (.cells #[.string ⟨#[]⟩, .string ⟨#[]⟩, .string ⟨#[]⟩, .int .i64 0, .int .i64 0] 27) = W at *
  refine (hlc _).mono ?_
  rintro e w1 ⟨rfl, hB1⟩
  replace Q := below_block hB1 (blk_lt Q) Q
  replace hB := hB.trans (hB1.mono hB.size)
  clear hB1
  go_wp2_with fail
  refine (hgc _).mono ?_
  rintro e w3 ⟨rfl, hB1⟩
  replace Q := below_block hB1 (blk_lt Q) Q
  replace hB := hB.trans (hB1.mono hB.size)
  clear hB1
  go_wp2_with fail
  refine (hdc _).mono ?_
  rintro e w4 ⟨rfl, hB1⟩
  replace Q := below_block hB1 (blk_lt Q) Q
  replace hB := hB.trans (hB1.mono hB.size)
  clear hB1
  go_wp2_with fail
  refine (hfc _).mono ?_
  rintro e w5 ⟨rfl, hB1⟩
  replace Q := below_block hB1 (blk_lt Q) Q
  replace hB := hB.trans (hB1.mono hB.size)
  clear hB1
  go_wp2_with fail
  have K := heap_alloc_new w5 (.cells #[.string F, .string d, .string ⟨#[]⟩, .int .i64 (a : Nat), .int .i64 (q : Nat)] 27)
  have hz5 := hB.size
  have hQz := blk_lt Q
  have hB1 := (Below.refl w5.heap.size w5).alloc (Nat.le_refl _) (.cells #[.string F, .string d, .string ⟨#[]⟩, .int .i64 (a : Nat), .int .i64 (q : Nat)] 27)
  replace Q := below_block hB1 hQz Q
  replace hB := hB.trans (hB1.mono hz5)
  have hne : w5.heap.size ≠ w.heap.size := by omega
  clear hB1
  generalize w5.alloc (.cells #[.string F, .string d, .string ⟨#[]⟩, .int .i64 (a : Nat), .int .i64 (q : Nat)] 27) = W5 at *
  generalize w5.heap.size = b at *
  have k0 := blk_cell K 0
  have k1 := blk_cell K 1
  have k2 := blk_cell K 2
  have k3 := blk_cell K 3
  have k4 := blk_cell K 4
  have m0 := blk_free K 0
  have m1 := blk_free K 1
  have m2 := blk_free K 2
  have m3 := blk_free K 3
  have m4 := blk_free K 4
  simp at k0 k1 k2 k3 k4
  go_wp2_with fail
  refine (hpc _).mono ?_
  rintro e w6 ⟨rfl, rfl⟩
  go_wp2_with fail
  refine (hbc _).mono ?_
  rintro e w7 ⟨rfl, hB1⟩
  replace Q := below_block hB1 (blk_lt Q) Q
  replace K := below_block hB1 (blk_lt K) K
  replace hB := hB.trans (hB1.mono hB.size)
  clear hB1
  clear k0 k1 k2 k3 k4 m0 m1 m2 m3 m4
  have k0 := blk_cell K 0
  have k1 := blk_cell K 1
  have k2 := blk_cell K 2
  have k3 := blk_cell K 3
  have k4 := blk_cell K 4
  have m0 := blk_free K 0
  have m1 := blk_free K 1
  have m2 := blk_free K 2
  have m3 := blk_free K 3
  have m4 := blk_free K 4
  simp at k0 k1 k2 k3 k4
  go_wp2_with fail
  refine (htc _).mono ?_
  rintro e w8 ⟨rfl, hB1⟩
  replace Q := below_block hB1 (blk_lt Q) Q
  replace K := below_block hB1 (blk_lt K) K
  replace hB := hB.trans (hB1.mono hB.size)
  clear hB1
  clear k0 k1 k2 k3 k4 m0 m1 m2 m3 m4
  have k0 := blk_cell K 0
  have k1 := blk_cell K 1
  have k2 := blk_cell K 2
  have k3 := blk_cell K 3
  have k4 := blk_cell K 4
  have m0 := blk_free K 0
  have m1 := blk_free K 1
  have m2 := blk_free K 2
  have m3 := blk_free K 3
  have m4 := blk_free K 4
  simp at k0 k1 k2 k3 k4
  have y0 := blk_cell Q 0
  have y1 := blk_cell Q 1
  have y2 := blk_cell Q 2
  have y3 := blk_cell Q 3
  have y4 := blk_cell Q 4
  have z0 := blk_free Q 0
  have z1 := blk_free Q 1
  have z2 := blk_free Q 2
  have z3 := blk_free Q 3
  have z4 := blk_free Q 4
  simp at y0 y1 y2 y3 y4
  have hne2 := hne.symm
  go_wp2_with fail
  refine bodyPost_ret (v := .tuple #[.agg #[.string F, .string d, .string ⟨#[]⟩, .int .i64 (a : Nat), .int .i64 (q : Nat)], .int .i64 (R - a)]) (by simp [results, Tryz.results13, go_sem, y0, y1, y2, y3, y4, k0, k1, k2, k3, k4, hne, hne2]) rfl ⟨rfl, ?_⟩
  go_grown

set_option maxHeartbeats 4000000 in
set_option maxRecDepth 100000 in
theorem Rdef_C_ok (s : ByteArray) (a n : Nat) (w : World) (hs : s.size ≤ 150000) (hn : 0 < n) (hb : a + n < s.size ∧ ∀ h : a + n < s.size, (s[a + n] == 58) = true) (f k q : Nat) (hf : f ≤ s.size) (hk : 0 < k) (hq : f + k = q) (hqs : q ≤ s.size) (L d F T : ByteArray) (R V : Int) (g t : Nat) (hR : 0 ≤ R ∧ R ≤ 150000) (hG : q < g) (ht : 0 < t) (hgt : g + t ≤ s.size) (hV : V < 0) (hlc : ∀ w, Calls Tryz.prog 7 #[.string s, .int .i64 (a : Nat)] w fun e w' => e = .returned (.tuple #[.string L, .int .i64 (n : Nat)]) ∧ Below w.heap.size w w') (hgc : ∀ w, Calls Tryz.prog 27 #[.string s, .int .i64 ((a + n + 1 : Nat) : Int)] w fun e w' => e = .returned (.int .i64 (f : Nat)) ∧ Below w.heap.size w w') (hdc : ∀ w, Calls Tryz.prog 9 #[.string s, .int .i64 (f : Nat)] w fun e w' => e = .returned (.tuple #[.string d, .int .i64 (k : Nat)]) ∧ Below w.heap.size w w') (hfc : ∀ w, Calls Tryz.prog 28 #[.string L] w fun e w' => e = .returned (.string F) ∧ Below w.heap.size w w') (hpc : ∀ w, Calls Tryz.prog 29 #[.string s, .int .i64 (q : Nat)] w fun e w' => e = .returned (.int .i64 R) ∧ w' = w) (hbc : ∀ w, Calls Tryz.prog 27 #[.string s, .int .i64 (q : Nat)] w fun e w' => e = .returned (.int .i64 (g : Nat)) ∧ Below w.heap.size w w') (htc : ∀ w, Calls Tryz.prog 11 #[.string s, .int .i64 (g : Nat)] w fun e w' => e = .returned (.tuple #[.string T, .int .i64 (t : Nat)]) ∧ Below w.heap.size w w') (hec : ∀ w, Calls Tryz.prog 29 #[.string s, .int .i64 ((g + t : Nat) : Int)] w fun e w' => e = .returned (.int .i64 V) ∧ w' = w) :
    Calls Tryz.prog 13 #[.string s, .int .i64 (a : Nat)] w fun e w' =>  e = .returned (.tuple #[.agg #[.string F, .string d, .string ⟨#[]⟩, .int .i64 (a : Nat), .int .i64 (q : Nat)], .int .i64 (R - a)]) ∧ Below w.heap.size w w' := by
  have i0 : (0 : Int) ≤ (a : Int) + (n : Int) := by omega
  have d0 : ((n : Int) == 0) = false := beq_eq_false_iff_ne.2 (by omega)
  have e1 : IntKind.i64.wrap ((a : Int) + (n : Int)) = ((a + n : Nat) : Int) := by rw [IntWalk.i64_in _ (by omega)]; omega
  have hlt : a + n < s.size := hb.1
  have i1 : ((a + n : Nat) : Int) < (s.size : Int) := by omega
  have i2 : (0 : Int) ≤ ((a + n : Nat) : Int) := by omega
  have dl : decide ((s.size : Int) ≤ ((a + n : Nat) : Int)) = false := decide_eq_false (by omega)
  have dl' : decide (s.size ≤ a + n) = false := decide_eq_false (by omega)
  have ul : ((s[a + n].toNat : Int) != 58) = false := by rw [show ((s[a + n].toNat : Int) != 58) = !(s[a + n] == 58) from nb s[a + n] 58, hb.2 hlt]; rfl
  have e2 : IntKind.i64.wrap (((a + n : Nat) : Int) + 1) = ((a + n + 1 : Nat) : Int) := by rw [IntWalk.i64_in _ (by omega)]; omega
  have dk : ((k : Int) == 0) = false := beq_eq_false_iff_ne.2 (by omega)
  have df : decide ((f : Int) < 0) = false := decide_eq_false (by omega)
  have e3 : IntKind.i64.wrap ((f : Int) + (k : Int)) = (q : Int) := by rw [IntWalk.i64_in _ (by omega)]; omega
  have dR : decide (R < 0) = false := decide_eq_false (by omega)
  have eR : IntKind.i64.wrap (R - (a : Int)) = R - (a : Int) := IntWalk.i64_in _ (by omega)
  have dG : decide ((q : Int) < (g : Int)) = true := decide_eq_true (by omega)
  have dt : decide ((0 : Int) < (t : Int)) = true := decide_eq_true (by omega)
  have dV : decide ((0 : Int) ≤ V) = false := decide_eq_false (by omega)
  have eg : IntKind.i64.wrap ((g : Int) + (t : Int)) = ((g + t : Nat) : Int) := by rw [IntWalk.i64_in _ (by omega)]; omega
  clear hb hq hR hV
  go_enter Tryz.func13, Tryz.ntmps13
  go_wp2_with fail
  have hB := (Below.refl w.heap.size w).alloc (Nat.le_refl _) (.cells #[.string ⟨#[]⟩, .string ⟨#[]⟩, .string ⟨#[]⟩, .int .i64 0, .int .i64 0] 27)
  have Q := heap_alloc_new w (.cells #[.string ⟨#[]⟩, .string ⟨#[]⟩, .string ⟨#[]⟩, .int .i64 0, .int .i64 0] 27)
  generalize w.alloc (.cells #[.string ⟨#[]⟩, .string ⟨#[]⟩, .string ⟨#[]⟩, .int .i64 0, .int .i64 0] 27) = W at *
  refine (hlc _).mono ?_
  rintro e w1 ⟨rfl, hB1⟩
  replace Q := below_block hB1 (blk_lt Q) Q
  replace hB := hB.trans (hB1.mono hB.size)
  clear hB1
  go_wp2_with fail
  refine (hgc _).mono ?_
  rintro e w3 ⟨rfl, hB1⟩
  replace Q := below_block hB1 (blk_lt Q) Q
  replace hB := hB.trans (hB1.mono hB.size)
  clear hB1
  go_wp2_with fail
  refine (hdc _).mono ?_
  rintro e w4 ⟨rfl, hB1⟩
  replace Q := below_block hB1 (blk_lt Q) Q
  replace hB := hB.trans (hB1.mono hB.size)
  clear hB1
  go_wp2_with fail
  refine (hfc _).mono ?_
  rintro e w5 ⟨rfl, hB1⟩
  replace Q := below_block hB1 (blk_lt Q) Q
  replace hB := hB.trans (hB1.mono hB.size)
  clear hB1
  go_wp2_with fail
  have K := heap_alloc_new w5 (.cells #[.string F, .string d, .string ⟨#[]⟩, .int .i64 (a : Nat), .int .i64 (q : Nat)] 27)
  have hz5 := hB.size
  have hQz := blk_lt Q
  have hB1 := (Below.refl w5.heap.size w5).alloc (Nat.le_refl _) (.cells #[.string F, .string d, .string ⟨#[]⟩, .int .i64 (a : Nat), .int .i64 (q : Nat)] 27)
  replace Q := below_block hB1 hQz Q
  replace hB := hB.trans (hB1.mono hz5)
  have hne : w5.heap.size ≠ w.heap.size := by omega
  clear hB1
  generalize w5.alloc (.cells #[.string F, .string d, .string ⟨#[]⟩, .int .i64 (a : Nat), .int .i64 (q : Nat)] 27) = W5 at *
  generalize w5.heap.size = b at *
  have k0 := blk_cell K 0
  have k1 := blk_cell K 1
  have k2 := blk_cell K 2
  have k3 := blk_cell K 3
  have k4 := blk_cell K 4
  have m0 := blk_free K 0
  have m1 := blk_free K 1
  have m2 := blk_free K 2
  have m3 := blk_free K 3
  have m4 := blk_free K 4
  simp at k0 k1 k2 k3 k4
  go_wp2_with fail
  refine (hpc _).mono ?_
  rintro e w6 ⟨rfl, rfl⟩
  go_wp2_with fail
  refine (hbc _).mono ?_
  rintro e w7 ⟨rfl, hB1⟩
  replace Q := below_block hB1 (blk_lt Q) Q
  replace K := below_block hB1 (blk_lt K) K
  replace hB := hB.trans (hB1.mono hB.size)
  clear hB1
  clear k0 k1 k2 k3 k4 m0 m1 m2 m3 m4
  have k0 := blk_cell K 0
  have k1 := blk_cell K 1
  have k2 := blk_cell K 2
  have k3 := blk_cell K 3
  have k4 := blk_cell K 4
  have m0 := blk_free K 0
  have m1 := blk_free K 1
  have m2 := blk_free K 2
  have m3 := blk_free K 3
  have m4 := blk_free K 4
  simp at k0 k1 k2 k3 k4
  go_wp2_with fail
  refine (htc _).mono ?_
  rintro e w8 ⟨rfl, hB1⟩
  replace Q := below_block hB1 (blk_lt Q) Q
  replace K := below_block hB1 (blk_lt K) K
  replace hB := hB.trans (hB1.mono hB.size)
  clear hB1
  clear k0 k1 k2 k3 k4 m0 m1 m2 m3 m4
  have k0 := blk_cell K 0
  have k1 := blk_cell K 1
  have k2 := blk_cell K 2
  have k3 := blk_cell K 3
  have k4 := blk_cell K 4
  have m0 := blk_free K 0
  have m1 := blk_free K 1
  have m2 := blk_free K 2
  have m3 := blk_free K 3
  have m4 := blk_free K 4
  simp at k0 k1 k2 k3 k4
  go_wp2_with fail
  refine (hec _).mono ?_
  rintro e w6 ⟨rfl, rfl⟩
  have y0 := blk_cell Q 0
  have y1 := blk_cell Q 1
  have y2 := blk_cell Q 2
  have y3 := blk_cell Q 3
  have y4 := blk_cell Q 4
  have z0 := blk_free Q 0
  have z1 := blk_free Q 1
  have z2 := blk_free Q 2
  have z3 := blk_free Q 3
  have z4 := blk_free Q 4
  simp at y0 y1 y2 y3 y4
  have hne2 := hne.symm
  go_wp2_with fail
  refine bodyPost_ret (v := .tuple #[.agg #[.string F, .string d, .string ⟨#[]⟩, .int .i64 (a : Nat), .int .i64 (q : Nat)], .int .i64 (R - a)]) (by simp [results, Tryz.results13, go_sem, y0, y1, y2, y3, y4, k0, k1, k2, k3, k4, hne, hne2]) rfl ⟨rfl, ?_⟩
  go_grown

set_option maxHeartbeats 4000000 in
set_option maxRecDepth 100000 in
theorem Rdef_tit (s : ByteArray) (a n : Nat) (w : World) (hs : s.size ≤ 150000) (hn : 0 < n) (hb : a + n < s.size ∧ ∀ h : a + n < s.size, (s[a + n] == 58) = true) (f k q : Nat) (hf : f ≤ s.size) (hk : 0 < k) (hq : f + k = q) (hqs : q ≤ s.size) (L d F T : ByteArray) (R V : Int) (g t : Nat) (hG : q < g) (ht : 0 < t) (hgt : g + t ≤ s.size) (hV : 0 ≤ V ∧ V ≤ 150000) (hlc : ∀ w, Calls Tryz.prog 7 #[.string s, .int .i64 (a : Nat)] w fun e w' => e = .returned (.tuple #[.string L, .int .i64 (n : Nat)]) ∧ Below w.heap.size w w') (hgc : ∀ w, Calls Tryz.prog 27 #[.string s, .int .i64 ((a + n + 1 : Nat) : Int)] w fun e w' => e = .returned (.int .i64 (f : Nat)) ∧ Below w.heap.size w w') (hdc : ∀ w, Calls Tryz.prog 9 #[.string s, .int .i64 (f : Nat)] w fun e w' => e = .returned (.tuple #[.string d, .int .i64 (k : Nat)]) ∧ Below w.heap.size w w') (hfc : ∀ w, Calls Tryz.prog 28 #[.string L] w fun e w' => e = .returned (.string F) ∧ Below w.heap.size w w') (hpc : ∀ w, Calls Tryz.prog 29 #[.string s, .int .i64 (q : Nat)] w fun e w' => e = .returned (.int .i64 R) ∧ w' = w) (hbc : ∀ w, Calls Tryz.prog 27 #[.string s, .int .i64 (q : Nat)] w fun e w' => e = .returned (.int .i64 (g : Nat)) ∧ Below w.heap.size w w') (htc : ∀ w, Calls Tryz.prog 11 #[.string s, .int .i64 (g : Nat)] w fun e w' => e = .returned (.tuple #[.string T, .int .i64 (t : Nat)]) ∧ Below w.heap.size w w') (hec : ∀ w, Calls Tryz.prog 29 #[.string s, .int .i64 ((g + t : Nat) : Int)] w fun e w' => e = .returned (.int .i64 V) ∧ w' = w) :
    Calls Tryz.prog 13 #[.string s, .int .i64 (a : Nat)] w fun e w' =>  e = .returned (.tuple #[.agg #[.string F, .string d, .string T, .int .i64 (a : Nat), .int .i64 ((g + t : Nat) : Int)], .int .i64 (V - a)]) ∧ Below w.heap.size w w' := by
  have i0 : (0 : Int) ≤ (a : Int) + (n : Int) := by omega
  have d0 : ((n : Int) == 0) = false := beq_eq_false_iff_ne.2 (by omega)
  have e1 : IntKind.i64.wrap ((a : Int) + (n : Int)) = ((a + n : Nat) : Int) := by rw [IntWalk.i64_in _ (by omega)]; omega
  have hlt : a + n < s.size := hb.1
  have i1 : ((a + n : Nat) : Int) < (s.size : Int) := by omega
  have i2 : (0 : Int) ≤ ((a + n : Nat) : Int) := by omega
  have dl : decide ((s.size : Int) ≤ ((a + n : Nat) : Int)) = false := decide_eq_false (by omega)
  have dl' : decide (s.size ≤ a + n) = false := decide_eq_false (by omega)
  have ul : ((s[a + n].toNat : Int) != 58) = false := by rw [show ((s[a + n].toNat : Int) != 58) = !(s[a + n] == 58) from nb s[a + n] 58, hb.2 hlt]; rfl
  have e2 : IntKind.i64.wrap (((a + n : Nat) : Int) + 1) = ((a + n + 1 : Nat) : Int) := by rw [IntWalk.i64_in _ (by omega)]; omega
  have dk : ((k : Int) == 0) = false := beq_eq_false_iff_ne.2 (by omega)
  have df : decide ((f : Int) < 0) = false := decide_eq_false (by omega)
  have e3 : IntKind.i64.wrap ((f : Int) + (k : Int)) = (q : Int) := by rw [IntWalk.i64_in _ (by omega)]; omega
  have dG : decide ((q : Int) < (g : Int)) = true := decide_eq_true (by omega)
  have dt : decide ((0 : Int) < (t : Int)) = true := decide_eq_true (by omega)
  have dV : decide ((0 : Int) ≤ V) = true := decide_eq_true (by omega)
  have eg : IntKind.i64.wrap ((g : Int) + (t : Int)) = ((g + t : Nat) : Int) := by rw [IntWalk.i64_in _ (by omega)]; omega
  have eV : IntKind.i64.wrap (V - (a : Int)) = V - (a : Int) := IntWalk.i64_in _ (by omega)
  clear hb hq hV
  go_enter Tryz.func13, Tryz.ntmps13
  go_wp2_with fail
  have hB := (Below.refl w.heap.size w).alloc (Nat.le_refl _) (.cells #[.string ⟨#[]⟩, .string ⟨#[]⟩, .string ⟨#[]⟩, .int .i64 0, .int .i64 0] 27)
  have Q := heap_alloc_new w (.cells #[.string ⟨#[]⟩, .string ⟨#[]⟩, .string ⟨#[]⟩, .int .i64 0, .int .i64 0] 27)
  generalize w.alloc (.cells #[.string ⟨#[]⟩, .string ⟨#[]⟩, .string ⟨#[]⟩, .int .i64 0, .int .i64 0] 27) = W at *
  refine (hlc _).mono ?_
  rintro e w1 ⟨rfl, hB1⟩
  replace Q := below_block hB1 (blk_lt Q) Q
  replace hB := hB.trans (hB1.mono hB.size)
  clear hB1
  go_wp2_with fail
  refine (hgc _).mono ?_
  rintro e w3 ⟨rfl, hB1⟩
  replace Q := below_block hB1 (blk_lt Q) Q
  replace hB := hB.trans (hB1.mono hB.size)
  clear hB1
  go_wp2_with fail
  refine (hdc _).mono ?_
  rintro e w4 ⟨rfl, hB1⟩
  replace Q := below_block hB1 (blk_lt Q) Q
  replace hB := hB.trans (hB1.mono hB.size)
  clear hB1
  go_wp2_with fail
  refine (hfc _).mono ?_
  rintro e w5 ⟨rfl, hB1⟩
  replace Q := below_block hB1 (blk_lt Q) Q
  replace hB := hB.trans (hB1.mono hB.size)
  clear hB1
  go_wp2_with fail
  have K := heap_alloc_new w5 (.cells #[.string F, .string d, .string ⟨#[]⟩, .int .i64 (a : Nat), .int .i64 (q : Nat)] 27)
  have hz5 := hB.size
  have hQz := blk_lt Q
  have hB1 := (Below.refl w5.heap.size w5).alloc (Nat.le_refl _) (.cells #[.string F, .string d, .string ⟨#[]⟩, .int .i64 (a : Nat), .int .i64 (q : Nat)] 27)
  replace Q := below_block hB1 hQz Q
  replace hB := hB.trans (hB1.mono hz5)
  have hne : w5.heap.size ≠ w.heap.size := by omega
  clear hB1
  generalize w5.alloc (.cells #[.string F, .string d, .string ⟨#[]⟩, .int .i64 (a : Nat), .int .i64 (q : Nat)] 27) = W5 at *
  generalize w5.heap.size = b at *
  have k0 := blk_cell K 0
  have k1 := blk_cell K 1
  have k2 := blk_cell K 2
  have k3 := blk_cell K 3
  have k4 := blk_cell K 4
  have m0 := blk_free K 0
  have m1 := blk_free K 1
  have m2 := blk_free K 2
  have m3 := blk_free K 3
  have m4 := blk_free K 4
  simp at k0 k1 k2 k3 k4
  go_wp2_with fail
  refine (hpc _).mono ?_
  rintro e w6 ⟨rfl, rfl⟩
  go_wp2_with fail
  refine (hbc _).mono ?_
  rintro e w7 ⟨rfl, hB1⟩
  replace Q := below_block hB1 (blk_lt Q) Q
  replace K := below_block hB1 (blk_lt K) K
  replace hB := hB.trans (hB1.mono hB.size)
  clear hB1
  clear k0 k1 k2 k3 k4 m0 m1 m2 m3 m4
  have k0 := blk_cell K 0
  have k1 := blk_cell K 1
  have k2 := blk_cell K 2
  have k3 := blk_cell K 3
  have k4 := blk_cell K 4
  have m0 := blk_free K 0
  have m1 := blk_free K 1
  have m2 := blk_free K 2
  have m3 := blk_free K 3
  have m4 := blk_free K 4
  simp at k0 k1 k2 k3 k4
  go_wp2_with fail
  refine (htc _).mono ?_
  rintro e w8 ⟨rfl, hB1⟩
  replace Q := below_block hB1 (blk_lt Q) Q
  replace K := below_block hB1 (blk_lt K) K
  replace hB := hB.trans (hB1.mono hB.size)
  clear hB1
  clear k0 k1 k2 k3 k4 m0 m1 m2 m3 m4
  have k0 := blk_cell K 0
  have k1 := blk_cell K 1
  have k2 := blk_cell K 2
  have k3 := blk_cell K 3
  have k4 := blk_cell K 4
  have m0 := blk_free K 0
  have m1 := blk_free K 1
  have m2 := blk_free K 2
  have m3 := blk_free K 3
  have m4 := blk_free K 4
  simp at k0 k1 k2 k3 k4
  go_wp2_with fail
  refine (hec _).mono ?_
  rintro e w6 ⟨rfl, rfl⟩
  have y0 := blk_cell Q 0
  have y1 := blk_cell Q 1
  have y2 := blk_cell Q 2
  have y3 := blk_cell Q 3
  have y4 := blk_cell Q 4
  have z0 := blk_free Q 0
  have z1 := blk_free Q 1
  have z2 := blk_free Q 2
  have z3 := blk_free Q 3
  have z4 := blk_free Q 4
  simp at y0 y1 y2 y3 y4
  have hne2 := hne.symm
  go_wp2_with fail
  refine bodyPost_ret (v := .tuple #[.agg #[.string F, .string d, .string T, .int .i64 (a : Nat), .int .i64 ((g + t : Nat) : Int)], .int .i64 (V - a)]) (by simp [results, Tryz.results13, go_sem, y0, y1, y2, y3, y4, k0, k1, k2, k3, k4, hne, hne2]) rfl ⟨rfl, ?_⟩
  go_grown


theorem def_go (s : ByteArray) (a f : Nat) (l d : ByteArray) (n k : Nat) (h : labelF s a = (l, n)) (hn : 0 < n) (h2 : (decide (a + n < s.size) && byteU s (a + n) == 58) = true) (hf : gapN s (a + n + 1) = f) (hd : destF s f = (d, k)) (hg : gapOK s (a + n + 1) = true) (hk : 0 < k) :
    defineF s a = match titledF s (f + k) with
      | some (t, u, e) => ⟨foldF l, d, t, a, u, e - a⟩
      | none => match restF2 s (f + k) with
        | some e => ⟨foldF l, d, ⟨#[]⟩, a, f + k, e - a⟩
        | none => noDef := by
  unfold defineF
  simp only [h, hf, hd, hg, h2, decide_eq_true hn, decide_eq_true hk, Bool.true_and, Bool.and_self, if_true]
  cases titledF s (f + k) with
  | some p => rfl
  | none => cases restF2 s (f + k) <;> rfl

theorem restI_some (s : ByteArray) (a e : Nat) (h : restF2 s a = some e) : restI s a = (e : Int) := by unfold restI; rw [h]
theorem restI_none (s : ByteArray) (a : Nat) (h : restF2 s a = none) : restI s a = -1 := by unfold restI; rw [h]

theorem rDefine_calls (s : ByteArray) (a : Int) (w : World) (hs : s.size ≤ 150000) :
    Calls Tryz.prog 13 #[.string s, .int .i64 a] w fun e w' => e = .returned (.tuple #[defV (defineI s a), .int .i64 ((defineI s a).n : Nat)]) ∧ Below w.heap.size w w' := by
  have hlc := fun w => rLabel_calls s a w (by omega)
  by_cases h0 : (labelI s a).2 = 0
  · rw [defineI_no s a h0]
    rw [h0] at hlc
    exact Rdef_no1 s a w _ hlc
  · have ha : 0 ≤ a ∧ a < s.size := by
      by_cases h : 0 ≤ a ∧ a < s.size
      · exact h
      · exact absurd (by rw [labelI_out s a h]) h0
    obtain ⟨i, rfl⟩ : ∃ n : Nat, a = n := ⟨a.toNat, by omega⟩
    have hdef : defineI s i = defineF s i := by unfold defineI; rw [if_pos (by omega)]; rfl
    rw [hdef]
    rw [labelI_nat] at hlc h0
    have hbd := labelF_bd s i (by omega)
    cases hl : labelF s i with
    | mk L n =>
    rw [hl] at hlc h0 hbd
    simp only at hlc h0 hbd
    have hn : 0 < n := by omega
    by_cases hlt : i + n < s.size
    · cases h58 : (s[i + n] == 58) with
      | false =>
        rw [def_no2 s i n (by rw [hl]) (by rw [byteU_in s _ hlt, h58]; simp)]
        exact Rdef_no2b s i n w hs hn hlt h58 L hlc
      | true =>
        have h2 : (decide (i + n < s.size) && byteU s (i + n) == 58) = true := by rw [byteU_in s _ hlt, h58, decide_eq_true hlt]; rfl
        have hb : i + n < s.size ∧ ∀ h : i + n < s.size, (s[i + n] == 58) = true := ⟨hlt, fun _ => h58⟩
        have hgc := fun w => rgap_calls s (i + n + 1) hlt w (by omega)
        have hgl := gapN_le s (i + n + 1) hlt
        have hgge : i + n + 1 ≤ gapN s (i + n + 1) := skip_ge s gapT (i + n + 1)
        cases hg : gapOK s (i + n + 1) with
        | false =>
          have hgi : gapI s (i + n + 1) = -1 := by unfold gapI; rw [hg]; rfl
          rw [hgi] at hgc
          rw [def_no3 s i n _ _ (by rw [hl]) rfl rfl (by rw [hg]; rfl)]
          exact Rdef_no3 s i n w hs hn hb L hlc hgc
        | true =>
          have hgi : gapI s (i + n + 1) = ((gapN s (i + n + 1) : Nat) : Int) := by unfold gapI; rw [hg]; rfl
          rw [hgi] at hgc
          generalize hfN : gapN s (i + n + 1) = f at *
          have hdc := fun w => rDest_calls s f w (by omega)
          rw [destI_in s f hgl] at hdc
          have hdb := destF_bd s f hgl
          cases hd : destF s f with
          | mk d k =>
          rw [hd] at hdc hdb
          simp only at hdc hdb
          by_cases hk : k = 0
          · rw [def_no3 s i n f k (by rw [hl]) hfN (by rw [hd]) (by rw [hg, hk]; rfl)]
            exact Rdef_no4 s i n w hs hn hb f k hgl hk L d hlc hgc hdc
          · have hk0 : 0 < k := by omega
            have hgo := def_go s i f L d n k hl hn h2 hfN hd hg hk0
            have hfc := fun w => r3Fold_calls L w (by omega)
            have hpc := fun w => rrest_calls s (f + k) hdb w (by omega)
            have hbc := fun w => rgap_calls s (f + k) hdb w (by omega)
            have hqg := gapN_le s (f + k) hdb
            generalize hq : f + k = q at *
            rw [hgo]
            by_cases hc : (decide (q < gapN s q) && gapOK s q) = true
            · have hc2 := hc
              simp only [Bool.and_eq_true, decide_eq_true_eq] at hc2
              have hgi2 : gapI s q = ((gapN s q : Nat) : Int) := by unfold gapI; rw [hc2.2]; rfl
              rw [hgi2] at hbc
              have htc := fun w => rTitle_calls s (gapN s q) w (by omega)
              rw [titleI_nat] at htc
              have htb := titleF_bd s (gapN s q) hqg
              have htf : titledF s q = if 0 < (titleF s (gapN s q)).2 then (restF2 s (gapN s q + (titleF s (gapN s q)).2)).map fun e => ((titleF s (gapN s q)).1, gapN s q + (titleF s (gapN s q)).2, e) else none := by
                unfold titledF
                exact if_pos hc
              generalize gapN s q = g at *
              cases ht : titleF s g with
              | mk T t =>
              rw [ht] at htc htb htf
              simp only at htc htb htf
              by_cases ht0 : t = 0
              · rw [if_neg (by omega)] at htf
                rw [htf]
                cases hR : restF2 s q with
                | none =>
                  rw [restI_none s q hR] at hpc
                  exact Rdef_B_bad s i n w hs hn hb f k q hgl hk0 hq hdb L d (foldF L) T (-1) g t (by omega) hc2.1 ht0 hlc hgc hdc hfc hpc hbc htc
                | some e =>
                  have heb := restF2_bd s q e hdb hR
                  rw [restI_some s q e hR] at hpc
                  refine (Rdef_B_ok s i n w hs hn hb f k q hgl hk0 hq hdb L d (foldF L) T (e : Nat) g t (by omega) hc2.1 ht0 hlc hgc hdc hfc hpc hbc htc).mono ?_
                  rintro e' w' ⟨rfl, hB⟩
                  refine ⟨?_, hB⟩
                  show Ending.returned (.tuple #[.agg #[.string (foldF L), .string d, .string ⟨#[]⟩, .int .i64 (i : Nat), .int .i64 (q : Nat)], .int .i64 ((e : Int) - i)]) = .returned (.tuple #[.agg #[.string (foldF L), .string d, .string ⟨#[]⟩, .int .i64 (i : Nat), .int .i64 (q : Nat)], .int .i64 ((e - i : Nat) : Int)])
                  rw [show ((e - i : Nat) : Int) = (e : Int) - i by omega]
              · have ht1 : 0 < t := by omega
                rw [if_pos ht1] at htf
                have hec := fun w => rrest_calls s (g + t) htb w (by omega)
                cases hV : restF2 s (g + t) with
                | none =>
                  rw [hV] at htf
                  rw [htf]
                  rw [restI_none s _ hV] at hec
                  simp only [Option.map_none]
                  cases hR : restF2 s q with
                  | none =>
                    rw [restI_none s q hR] at hpc
                    exact Rdef_C_bad s i n w hs hn hb f k q hgl hk0 hq hdb L d (foldF L) T (-1) (-1) g t (by omega) hc2.1 ht1 htb (by omega) hlc hgc hdc hfc hpc hbc htc hec
                  | some e =>
                    have heb := restF2_bd s q e hdb hR
                    rw [restI_some s q e hR] at hpc
                    refine (Rdef_C_ok s i n w hs hn hb f k q hgl hk0 hq hdb L d (foldF L) T (e : Nat) (-1) g t (by omega) hc2.1 ht1 htb (by omega) hlc hgc hdc hfc hpc hbc htc hec).mono ?_
                    rintro e' w' ⟨rfl, hB⟩
                    refine ⟨?_, hB⟩
                    show Ending.returned (.tuple #[.agg #[.string (foldF L), .string d, .string ⟨#[]⟩, .int .i64 (i : Nat), .int .i64 (q : Nat)], .int .i64 ((e : Int) - i)]) = .returned (.tuple #[.agg #[.string (foldF L), .string d, .string ⟨#[]⟩, .int .i64 (i : Nat), .int .i64 (q : Nat)], .int .i64 ((e - i : Nat) : Int)])
                    rw [show ((e - i : Nat) : Int) = (e : Int) - i by omega]
                | some v =>
                  have hvb := restF2_bd s (g + t) v htb hV
                  rw [hV] at htf
                  rw [htf]
                  rw [restI_some s _ v hV] at hec
                  simp only [Option.map_some]
                  refine (Rdef_tit s i n w hs hn hb f k q hgl hk0 hq hdb L d (foldF L) T (restI s q) (v : Nat) g t hc2.1 ht1 htb (by omega) hlc hgc hdc hfc hpc hbc htc hec).mono ?_
                  rintro e' w' ⟨rfl, hB⟩
                  refine ⟨?_, hB⟩
                  show Ending.returned (.tuple #[.agg #[.string (foldF L), .string d, .string T, .int .i64 (i : Nat), .int .i64 ((g + t : Nat) : Int)], .int .i64 ((v : Int) - i)]) = .returned (.tuple #[.agg #[.string (foldF L), .string d, .string T, .int .i64 (i : Nat), .int .i64 ((g + t : Nat) : Int)], .int .i64 ((v - i : Nat) : Int)])
                  rw [show ((v - i : Nat) : Int) = (v : Int) - i by omega]
            · have htf : titledF s q = none := by
                unfold titledF
                exact if_neg hc
              have hG : gapI s q ≤ q := by
                unfold gapI
                split
                · rename_i hok
                  rw [hok, Bool.and_true, decide_eq_true_eq] at hc
                  omega
                · omega
              rw [htf]
              cases hR : restF2 s q with
              | none =>
                rw [restI_none s q hR] at hpc
                exact Rdef_A_bad s i n w hs hn hb f k q hgl hk0 hq hdb L d (foldF L) (-1) (gapI s q) (by omega) hG hlc hgc hdc hfc hpc hbc
              | some e =>
                have heb := restF2_bd s q e hdb hR
                rw [restI_some s q e hR] at hpc
                refine (Rdef_A_ok s i n w hs hn hb f k q hgl hk0 hq hdb L d (foldF L) (e : Nat) (gapI s q) (by omega) hG hlc hgc hdc hfc hpc hbc).mono ?_
                rintro e' w' ⟨rfl, hB⟩
                refine ⟨?_, hB⟩
                show Ending.returned (.tuple #[.agg #[.string (foldF L), .string d, .string ⟨#[]⟩, .int .i64 (i : Nat), .int .i64 (q : Nat)], .int .i64 ((e : Int) - i)]) = .returned (.tuple #[.agg #[.string (foldF L), .string d, .string ⟨#[]⟩, .int .i64 (i : Nat), .int .i64 (q : Nat)], .int .i64 ((e - i : Nat) : Int)])
                rw [show ((e - i : Nat) : Int) = (e : Int) - i by omega]
    · rw [def_no2 s i n (by rw [hl]) (by rw [decide_eq_false hlt]; rfl)]
      exact Rdef_no2a s i n w hs hn hbd.1 (by omega) L hlc


set_option maxHeartbeats 4000000 in
set_option maxRecDepth 100000 in
theorem LinkDefines_walk (s : ByteArray) (a : Int) (w : World) (hE : EnvE w) :
    Calls Tryz.prog 4 #[.string s, .int .i64 a] w fun e w' => e = .returned (.bool true) ∧ Below w.heap.size w w' := by
  have HE := Lib.hid hE
  by_cases hs : s.size ≤ 20000
  · have d1 : decide ((20000 : Int) < (s.size : Int)) = false := decide_eq_false (by omega)
    have q1 := fun w hE => Define_calls s a w hE (by omega)
    have q2 := fun w => rDefine_calls s a w (by omega)
    generalize defineI s a = D at *
    obtain ⟨L, K, T, F, U, N⟩ := D
    simp only [defV] at q1 q2
    clear hE
    go_enter Tryz.func4, Tryz.ntmps4
    go_wp2_with fail
    refine (alive08_calls _ HE.out).mono ?_
    rintro e w1 ⟨rfl, b1⟩
    go_wp2_with fail
    refine (q1 _ (HE.out.below b1)).mono ?_
    rintro e w2 ⟨rfl, b2⟩
    replace b1 := b1.trans (b2.mono b1.size)
    clear b2
    go_wp2_with fail
    have C1 := heap_alloc_new w2 (.cells #[.string L, .string K, .string T, .int .i64 (F : Nat), .int .i64 (U : Nat)] 27)
    replace b1 := b1.trans (((Below.refl w2.heap.size w2).alloc (Nat.le_refl _) (.cells #[.string L, .string K, .string T, .int .i64 (F : Nat), .int .i64 (U : Nat)] 27)).mono b1.size)
    generalize w2.alloc (.cells #[.string L, .string K, .string T, .int .i64 (F : Nat), .int .i64 (U : Nat)] 27) = W2 at *
    generalize w2.heap.size = x2 at *
    refine (q2 _).mono ?_
    rintro e w3 ⟨rfl, b2⟩
    replace C1 := below_block b2 (blk_lt C1) C1
    replace b1 := b1.trans (b2.mono b1.size)
    clear b2
    go_upto_region 7 with (fail)
    have hz := blk_lt C1
    have b2 := (Below.refl w3.heap.size w3).alloc (Nat.le_refl _) (.cells #[.string L, .string K, .string T, .int .i64 (F : Nat), .int .i64 (U : Nat)] 27)
    replace C1 := below_block b2 hz C1
    have C2 := heap_alloc_new w3 (.cells #[.string L, .string K, .string T, .int .i64 (F : Nat), .int .i64 (U : Nat)] 27)
    replace b1 := b1.trans (b2.mono b1.size)
    clear b2
    generalize w3.alloc (.cells #[.string L, .string K, .string T, .int .i64 (F : Nat), .int .i64 (U : Nat)] 27) = W3 at *
    generalize w3.heap.size = x3 at *
    have k0 := blk_cell C1 0
    have k1 := blk_cell C1 1
    have k2 := blk_cell C1 2
    have k3 := blk_cell C1 3
    have k4 := blk_cell C1 4
    have m0 := blk_cell C2 0
    have m1 := blk_cell C2 1
    have m2 := blk_cell C2 2
    have m3 := blk_cell C2 3
    have m4 := blk_cell C2 4
    simp at k0 k1 k2 k3 k4 m0 m1 m2 m3 m4
    clear C1 C2
    go_wp2_with fail
    go_ret
    exact ⟨rfl, b1⟩
  · have d1 : decide ((20000 : Int) < (s.size : Int)) = true := decide_eq_true (by omega)
    go_enter Tryz.func4, Tryz.ntmps4
    go_wp2_with fail
    refine (alive08_calls _ hE).mono ?_
    rintro e w1 ⟨rfl, h1⟩
    go_wp2_with fail
    go_ret
    exact ⟨rfl, h1⟩

end Go.Proofs.YtcpbljhogenjoaaGreatDoor
