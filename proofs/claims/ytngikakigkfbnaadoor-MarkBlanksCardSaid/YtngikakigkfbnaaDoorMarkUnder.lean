/- Walk: mark.Under. -/
import Derived.Test.YtngikakigkfbnaaDoorMarkA
import Derived.Test.YtngikakigkfbnaaDoorHelp
namespace Go.Proofs.YtngikakigkfbnaaDoor
set_option linter.unusedVariables false
set_option linter.unusedSimpArgs false
open Go Go.RowKit Go.Lib

set_option maxRecDepth 100000 in
set_option maxHeartbeats 1000000 in
theorem Under_calls (s : ByteArray) (w : World) (hs : s.size ≤ 1000000) :
    Calls Tryd.prog 11 #[.string s] w fun e w' => e = .returned (.int .i64 (underF s)) ∧ Below w.heap.size w w' := by
  have hl1 := lead_le s ⟨#[61]⟩
  have hl2 := lead_le s ⟨#[45]⟩
  have hu : Hid (underF s = if lineOf s 61 = true then 1 else if lineOf s 45 = true then 2 else 0) := rfl
  go_enter Tryd.func11, Tryd.ntmps11
  go_wp2_with fail
  refine wp_loop_rounds 3 ?_
  rw [rounds_succ]
  go_wp2_with fail
  refine (row_calls s ⟨#[61]⟩ _ hs (by decide) (ascii_c 61 (by decide))).mono ?_
  rintro e w1 ⟨rfl, b1⟩
  have K := below_block b1 (k := w.heap.size) (by simp) (heap_alloc_new w _)
  have hB := ((Below.refl w.heap.size w).alloc (Nat.le_refl _) _).trans (b1.mono (by simp))
  clear b1
  obtain ⟨p, hq1⟩ : ∃ p, lead s ⟨#[61]⟩ = p := ⟨_, rfl⟩
  obtain ⟨q, hq2⟩ : ∃ q, lead s ⟨#[45]⟩ = q := ⟨_, rfl⟩
  have Q1 := Lib.hid hq1
  rw [hq1] at hl1 ⊢
  rw [hq2] at hl2
  clear hq1
  by_cases h1 : 0 < p
  · go_wp2_with fail
    refine (empty_calls _ _ (by rw [Lib.tail_size]; omega)).mono ?_
    rintro e w2 ⟨rfl, b2⟩
    cases he1 : emptyB (s.extract p s.size) with
    | true =>
      have hf : Hid (underF s = 1) := by show _ = _; rw [hu.out, lineOf_yes s 61 p Q1.out h1 true he1]; rfl
      go_wp2_with fail
      go_ret
      exact ⟨ret_int hf.out.symm, hB.trans (b2.mono hB.size)⟩
    | false =>
      have e1 := Lib.hid (lineOf_yes s 61 p Q1.out h1 false he1)
      replace K := below_block b2 (blk_lt K) K
      replace hB := hB.trans (b2.mono hB.size)
      clear b2
      have k1 := blk_cell K 1
      have kz := blk_lt K
      have zB := hB.size
      simp at k1
      go_wp2_with fail
      rw [rounds_succ]
      go_wp2_with fail
      refine (row_calls s ⟨#[45]⟩ _ hs (by decide) (ascii_c 45 (by decide))).mono ?_
      rintro e v1 ⟨rfl, c1⟩
      have hC := hB.trans (c1.mono zB)
      have zC := hC.size
      have Q2 := Lib.hid hq2
      rw [hq2]
      clear c1 k1 kz K hq2
      by_cases h2 : 0 < q
      · go_wp2_with fail
        refine (empty_calls _ _ (by rw [Lib.tail_size]; omega)).mono ?_
        rintro e v2 ⟨rfl, c2⟩
        cases he2 : emptyB (s.extract q s.size) with
        | true =>
          have hf : Hid (underF s = 2) := by show _ = _; rw [hu.out, e1.out, if_neg (by simp), (lineOf_yes s 45 q Q2.out h2 true he2)]; rfl
          go_wp2_with fail
          go_ret
          exact ⟨ret_int hf.out.symm, hC.trans (c2.mono zC)⟩
        | false =>
          have hf : Hid (underF s = 0) := by show _ = _; rw [hu.out, e1.out, if_neg (by simp), (lineOf_yes s 45 q Q2.out h2 false he2)]; rfl
          go_wp2_with fail
          rw [rounds_succ]
          go_wp2_with fail
          go_ret
          exact ⟨ret_int hf.out.symm, hC.trans (c2.mono zC)⟩
      · have hf : Hid (underF s = 0) := by show _ = _; rw [hu.out, e1.out, if_neg (by simp), (lineOf_no s 45 q Q2.out h2)]; rfl
        go_wp2_with fail
        rw [rounds_succ]
        go_wp2_with fail
        go_ret
        exact ⟨ret_int hf.out.symm, hC⟩
  · have e1 := Lib.hid (lineOf_no s 61 p Q1.out h1)
    have k1 := blk_cell K 1
    have kz := blk_lt K
    have zB := hB.size
    simp at k1
    go_wp2_with fail
    rw [rounds_succ]
    go_wp2_with fail
    refine (row_calls s ⟨#[45]⟩ _ hs (by decide) (ascii_c 45 (by decide))).mono ?_
    rintro e v1 ⟨rfl, c1⟩
    have hC := hB.trans (c1.mono zB)
    have zC := hC.size
    have Q2 := Lib.hid hq2
    rw [hq2]
    clear c1 k1 kz K hq2
    by_cases h2 : 0 < q
    · go_wp2_with fail
      refine (empty_calls _ _ (by rw [Lib.tail_size]; omega)).mono ?_
      rintro e v2 ⟨rfl, c2⟩
      cases he2 : emptyB (s.extract q s.size) with
      | true =>
        have hf : Hid (underF s = 2) := by show _ = _; rw [hu.out, e1.out, if_neg (by simp), (lineOf_yes s 45 q Q2.out h2 true he2)]; rfl
        go_wp2_with fail
        go_ret
        exact ⟨ret_int hf.out.symm, hC.trans (c2.mono zC)⟩
      | false =>
        have hf : Hid (underF s = 0) := by show _ = _; rw [hu.out, e1.out, if_neg (by simp), (lineOf_yes s 45 q Q2.out h2 false he2)]; rfl
        go_wp2_with fail
        rw [rounds_succ]
        go_wp2_with fail
        go_ret
        exact ⟨ret_int hf.out.symm, hC.trans (c2.mono zC)⟩
    · have hf : Hid (underF s = 0) := by show _ = _; rw [hu.out, e1.out, if_neg (by simp), (lineOf_no s 45 q Q2.out h2)]; rfl
      go_wp2_with fail
      rw [rounds_succ]
      go_wp2_with fail
      go_ret
      exact ⟨ret_int hf.out.symm, hC⟩

end Go.Proofs.YtngikakigkfbnaaDoor
