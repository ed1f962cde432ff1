/- Walk: the law RunsScans. -/
import Derived.Test.YtkpjcbpfpfjjkaaDoorAlive11
namespace Go.Proofs.YtkpjcbpfpfjjkaaDoor
open Go Go.RowKit Go.Lib

theorem RunsScans_walk (s : ByteArray) (a : Int) (w : World) (hT : Tabs w) :
    Calls Tryd.prog 3 #[.string s, .int .i64 a] w fun e w' => e = .returned (.bool true) ∧ Below w.heap.size w w' := by
  go_enter Tryd.func3, Tryd.ntmps3
  go_wp2_with fail
  refine (alive11_calls _ hT).mono ?_
  rintro e w1 ⟨rfl, h1⟩
  by_cases hs : s.size ≤ 50000
  · go_wp2_with fail
    refine (Scan_calls s a _ (by omega) (hT.below h1)).mono ?_
    rintro e w2 ⟨rfl, h2⟩
    go_wp2_with fail
    refine (refScan_calls s a _ (by omega)).mono ?_
    rintro e w3 ⟨rfl, h3⟩
    have s2 := h3.size
    simp only [World.size_alloc] at s2
    have K1 := below_block h3 (k := w2.heap.size) (by simp) (heap_alloc_new w2 _)
    have c0 := blk_cell K1 0
    have c1 := blk_cell K1 1
    have c2 := blk_cell K1 2
    have c3 := blk_cell K1 3
    simp at c0 c1 c2 c3
    have hB : Below w.heap.size w w3 := h1.trans ((h2.trans ((((Below.refl w2.heap.size w2).alloc (Nat.le_refl _) _).trans (h3.mono (by simp))).mono h2.size)).mono h1.size)
    clear h1 h2 h3 K1 hT
    have zB := hB.size
    have z1 : w2.heap.size < w3.heap.size := by omega
    generalize scanR s a = r at *
    go_wp2_with fail
    go_ways
    go_ret
    exact ⟨rfl, by go_grown⟩
  · go_wp2_with fail
    go_ret
    exact ⟨rfl, h1⟩

end Go.Proofs.YtkpjcbpfpfjjkaaDoor
