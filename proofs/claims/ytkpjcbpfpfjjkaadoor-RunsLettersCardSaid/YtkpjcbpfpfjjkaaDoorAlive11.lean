/- Walk: what the laws of layer 11 ask first. -/
import Derived.Test.YtkpjcbpfpfjjkaaDoorScans
namespace Go.Proofs.YtkpjcbpfpfjjkaaDoor
set_option linter.unusedVariables false
set_option linter.unusedSimpArgs false
open Go Go.RowKit Go.Lib

theorem a1 : scanR ⟨#[97, 42, 42, 98]⟩ 1 = ⟨42, 2, true, true, true⟩ := by kernel_rfl
theorem a2 : scanR ⟨#[97, 95, 98]⟩ 1 = ⟨95, 1, false, false, true⟩ := by kernel_rfl
theorem a3 : scanR ⟨#[97]⟩ 0 = ⟨0, 0, false, false, false⟩ := by kernel_rfl

theorem alive11_calls (w : World) (hT : Tabs w) :
    Calls Tryd.prog 7 #[] w fun e w' => e = .returned (.bool true) ∧ Below w.heap.size w w' := by
  go_enter Tryd.func7, Tryd.ntmps7
  go_wp2_with fail
  refine (Scan_calls ⟨#[97, 42, 42, 98]⟩ 1 _ (by decide) hT).mono ?_
  rintro e w1 ⟨rfl, h1⟩
  rw [a1]
  go_wp2_with fail
  have b1 := ((Below.refl w1.heap.size w1).alloc (Nat.le_refl _) (.cells #[.int .u8 42, .int .i64 2, .bool true, .bool true] 24))
  refine (Scan_calls ⟨#[97, 95, 98]⟩ 1 _ (by decide) ((hT.below h1).below b1)).mono ?_
  rintro e w2 ⟨rfl, h2⟩
  rw [a2]
  go_wp2_with fail
  have b2 := ((Below.refl w2.heap.size w2).alloc (Nat.le_refl _) (.cells #[.int .u8 95, .int .i64 1, .bool false, .bool false] 24))
  refine (Scan_calls ⟨#[97]⟩ 0 _ (by decide) ((((hT.below h1).below b1).below h2).below b2)).mono ?_
  rintro e w3 ⟨rfl, h3⟩
  rw [a3]
  have s1 := h2.size
  have s2 := h3.size
  simp only [World.size_alloc] at s1 s2
  have K1 := below_block h3 (k := w1.heap.size) (by simp; omega) (below_block b2 (by omega) (below_block h2 (k := w1.heap.size) (by simp) (heap_alloc_new w1 _)))
  have K2 := below_block h3 (k := w2.heap.size) (by simp) (heap_alloc_new w2 _)
  have c0 := blk_cell K1 0
  have c1 := blk_cell K1 1
  have c2 := blk_cell K1 2
  have c3 := blk_cell K1 3
  have d0 := blk_cell K2 0
  have d1 := blk_cell K2 1
  have d2 := blk_cell K2 2
  have d3 := blk_cell K2 3
  simp at c0 c1 c2 c3 d0 d1 d2 d3
  have hB : Below w.heap.size w w3 := h1.trans ((b1.trans ((h2.trans ((b2.trans (h3.mono (by simp))).mono (by simp; omega))).mono (by simp))).mono h1.size)
  clear h1 b1 h2 b2 h3 K1 K2 hT
  have zB := hB.size
  have z1 : w1.heap.size < w3.heap.size := by omega
  have z2 : w2.heap.size < w3.heap.size := by omega
  go_wp2_with fail
  go_ret
  exact ⟨rfl, by go_grown⟩

end Go.Proofs.YtkpjcbpfpfjjkaaDoor
