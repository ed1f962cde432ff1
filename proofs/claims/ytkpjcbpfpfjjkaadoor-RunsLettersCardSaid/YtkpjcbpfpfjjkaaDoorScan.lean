/- Walks: runs.of, leans, Scan. -/
import Derived.Test.YtkpjcbpfpfjjkaaDoorScanDef
import Derived.Test.YtkpjcbpfpfjjkaaDoorCut
import Derived.Handy
import Derived.BigQuiet
import Derived.Deep.QuietTactic
import Derived.Deep.RegionHeld3
import Derived.Deep.DeepCutAuto
import Derived.Laws.Rows
import Derived.WalkSmall
namespace Go.Proofs.YtkpjcbpfpfjjkaaDoor
set_option linter.unusedVariables false
set_option linter.unusedSimpArgs false
open Go Go.RowKit Go.Lib

theorem of_no (r : Int) (w : World) :
    Calls Tryd.prog 12 #[.int .i64 r, .bool false] w fun e w' => e = .returned (.agg #[.bool true, .bool false]) ∧ Below w.heap.size w w' := by
  go_enter Tryd.func12, Tryd.ntmps12
  go_wp2
  go_returns
  exact ⟨rfl, by go_grown⟩

theorem of_yes (r : Int) (w : World) :
    Calls Tryd.prog 12 #[.int .i64 r, .bool true] w fun e w' => e = .returned (.agg #[.bool (blankB r), .bool (markB r)]) ∧ Below w.heap.size w w' := by
  go_enter Tryd.func12, Tryd.ntmps12
  go_wp2_with fail
  refine (Blank_calls r _).mono ?_
  rintro e w1 ⟨rfl, hb⟩
  go_wp2_with fail
  refine (Mark_calls r _).mono ?_
  rintro e w2 ⟨rfl, hb2⟩
  have hw := hb.trans (hb2.mono hb.size)
  have k0 : w2.cell? ⟨w.heap.size, 0, none⟩ = some (.bool false) := (hw.cell (p := ⟨w.heap.size, 0, none⟩) (by simp)).trans (by simp)
  have k1 : w2.cell? ⟨w.heap.size, 1, none⟩ = some (.bool false) := (hw.cell (p := ⟨w.heap.size, 1, none⟩) (by simp)).trans (by simp)
  have f0 : w2.frozen? ⟨w.heap.size, 0, none⟩ = false := (hw.frozen (p := ⟨w.heap.size, 0, none⟩) (by simp)).trans (by go_simp)
  have f1 : w2.frozen? ⟨w.heap.size, 1, none⟩ = false := (hw.frozen (p := ⟨w.heap.size, 1, none⟩) (by simp)).trans (by go_simp)
  have hz : w.heap.size < w2.heap.size := by have := hw.size; simp at this; omega
  have hB : Below w.heap.size w w2 := ((Below.refl _ _).alloc (Nat.le_refl _) _).trans (hw.mono (by simp))
  clear hb hb2 hw
  go_wp2
  refine bodyPost_ret (v := .agg #[.bool (blankB r), .bool (markB r)]) (by simp [results, Tryd.results12, go_sem, k0, k1]) rfl ⟨rfl, ?_⟩
  go_grown

theorem leans_calls (a b c d : Bool) (w : World) :
    Calls Tryd.prog 14 #[.agg #[.bool a, .bool b], .agg #[.bool c, .bool d]] w fun e w' => e = .returned (.bool (!a && (!b || c || d))) ∧ Below w.heap.size w w' := by
  cases a <;> cases b <;> cases c
  all_goals
    go_enter Tryd.func14, Tryd.ntmps14
    go_wp2
    go_ret
    exact ⟨rfl, by go_grown⟩

theorem of_calls (r : Int) (b : Bool) (w : World) :
    Calls Tryd.prog 12 #[.int .i64 r, .bool b] w fun e w' => e = .returned (.agg #[.bool (sideOf r b).blank, .bool (sideOf r b).mark]) ∧ Below w.heap.size w w' := by
  cases b with
  | false => exact of_no r w
  | true => exact of_yes r w

theorem leans_sides (a b : Side) (w : World) :
    Calls Tryd.prog 14 #[.agg #[.bool a.blank, .bool a.mark], .agg #[.bool b.blank, .bool b.mark]] w fun e w' => e = .returned (.bool (leansB a b)) ∧ Below w.heap.size w w' :=
  leans_calls a.blank a.mark b.blank b.mark w

theorem keep4 {W2 x y : World} {p q : Nat} {v0 v1 v2 v3 : Value} (hp : p < W2.heap.size) (hq : q < W2.heap.size)
    (h : x.cell? ⟨p, 0, none⟩ = some v0 ∧ x.cell? ⟨p, 1, none⟩ = some v1 ∧ x.cell? ⟨q, 0, none⟩ = some v2 ∧ x.cell? ⟨q, 1, none⟩ = some v3 ∧ Below W2.heap.size W2 x) (hb : Below x.heap.size x y) :
    y.cell? ⟨p, 0, none⟩ = some v0 ∧ y.cell? ⟨p, 1, none⟩ = some v1 ∧ y.cell? ⟨q, 0, none⟩ = some v2 ∧ y.cell? ⟨q, 1, none⟩ = some v3 ∧ Below W2.heap.size W2 y := by
  obtain ⟨h0, h1, h2, h3, hB⟩ := h
  have hz := hB.size
  exact ⟨(hb.cell (p := ⟨p, 0, none⟩) (by show p < _; omega)).trans h0, (hb.cell (p := ⟨p, 1, none⟩) (by show p < _; omega)).trans h1,
    (hb.cell (p := ⟨q, 0, none⟩) (by show q < _; omega)).trans h2, (hb.cell (p := ⟨q, 1, none⟩) (by show q < _; omega)).trans h3, hB.trans (hb.mono hz)⟩

set_option maxHeartbeats 4000000 in
theorem Scan_row (s : ByteArray) (n : Nat) (w : World) (hs : s.size ≤ 1000000) (hT : Tabs w) (hn : n < s.size) (m : Int) (hm0 : 0 ≤ m) (hm1 : m < 128) (hc : ((s[n].toNat : Int) != 42) = false ∨ ((s[n].toNat : Int) != 42) = true ∧ ((s[n].toNat : Int) != 95) = false) (hmm : Hid ((s[n].toNat : Int) = m)) :
    Calls Tryd.prog 8 #[.string s, .int .i64 n] w fun e w' => e = .returned (.tuple #[.agg #[.int .u8 m, .int .i64 (rowOf s n m), .bool (flags (m == 95) (aheadOf s n) (behindOf s ((n : Int) + (rowOf s n m : Nat)))).1, .bool (flags (m == 95) (aheadOf s n) (behindOf s ((n : Int) + (rowOf s n m : Nat)))).2], .bool true]) ∧ Below w.heap.size w w' := by
  have HT := Lib.hid hT
  have hl := Lib.hid (rowOf_le s n m)
  have hcut := Lib.hid (cut_rowOf s n m hs)
  obtain ⟨hq2, hq3⟩ := encode_bd m hm0 hm1
  clear hT
  have e32 := IntWalk.i32_in m (by omega)
  have b0 : (0 : Int) ≤ n := by omega
  have b1 : (n : Int) ≤ s.size := by omega
  have c0 : decide ((n : Int) < 0) = false := by simp
  have c1 : decide (s.size ≤ n) = false := by simp; omega
  rcases hc with hc | ⟨hc, hc'⟩
  all_goals
    go_enter Tryd.func8, Tryd.ntmps8
    go_wp2_with fail
    rw [hmm.out]
    clear hc
    try clear hc'
    have hB := (Below.refl w.heap.size w).alloc (Nat.le_refl _) (.cells #[.int .u8 0, .int .i64 0, .bool false, .bool false] 24)
    have Q0 := Lib.hid (heap_alloc_new w (.cells #[.int .u8 0, .int .i64 0, .bool false, .bool false] 24))
    have qz : w.heap.size < (w.alloc (.cells #[.int .u8 0, .int .i64 0, .bool false, .bool false] 24)).heap.size := by simp
    generalize (w.alloc (.cells #[.int .u8 0, .int .i64 0, .bool false, .bool false] 24)) = W at *
    go_region_held3 (fun wx => Below W.heap.size W wx) (first | exact (Below.refl _ _).drew | exact Below.trans (by assumption) (Below.mono (by assumption) (Below.size (by assumption))))
      (first | (go_at_call 10; refine (cutLeft_calls (s.extract n s.size) (Utf8.encode m) _ (by rw [Lib.tail_size]; omega) hq2 hq3).mono ?_; rintro e w1 ⟨rfl, hb1⟩))
    have hw1 : Below W.heap.size W w1 := by assumption
    rw [hcut.out]
    have hl := hl.out
    clear hcut hb1 hq2 hq3 e32
    generalize hk : rowOf s n m = k at *
    have HK := Lib.hid hk
    clear hk
    go_wp2_with fail
    refine (Rune_calls s _ _ hs ((HT.out.below hB).below hw1)).mono ?_
    rintro e w2 ⟨rfl, hb2⟩
    go_wp2_with fail
    refine (Before_calls s _ _ hs (((HT.out.below hB).below hw1).below hb2)).mono ?_
    rintro e w3 ⟨rfl, hb3⟩
    go_wp2_with fail
    refine (of_calls _ _ _).mono ?_
    rintro e w4 ⟨rfl, hb4⟩
    go_wp2_with fail
    refine (of_calls _ _ _).mono ?_
    rintro e w5 ⟨rfl, hb5⟩
    have hw5 : Below W.heap.size W w5 := hw1.trans ((hb2.trans ((hb3.trans ((hb4.trans (hb5.mono hb4.size)).mono hb3.size)).mono hb2.size)).mono hw1.size)
    clear hw1 hb2 hb3 hb4 hb5
    have ha : Hid (sideOf (beforeF s n) (decide (0 < n)) = aheadOf s n) := rfl
    have hh : Hid (sideOf (runeF s ((n : Int) + (k : Int))).1 (decide (0 < (runeF s ((n : Int) + (k : Int))).2)) = behindOf s ((n : Int) + (k : Int))) := rfl
    rw [ha.out, hh.out]
    clear ha hh
    generalize hA : aheadOf s n = A at *
    generalize hBe : behindOf s ((n : Int) + (k : Int)) = B at *
    have HA := Lib.hid hA
    have HBe := Lib.hid hBe
    clear hA hBe
    go_wp2_with fail
    have hb6 := ((Below.refl w5.heap.size w5).alloc (Nat.le_refl _) (.cells #[.bool A.blank, .bool A.mark] 34)).alloc (by simp) (.cells #[.bool B.blank, .bool B.mark] 34)
    have R1 := (Go.RowKit.Below.heap_alloc (w5.alloc (.cells #[.bool A.blank, .bool A.mark] 34)) (.cells #[.bool B.blank, .bool B.mark] 34) w5.heap.size (by simp)).trans (heap_alloc_new w5 _)
    have R2 := heap_alloc_new (w5.alloc (.cells #[.bool A.blank, .bool A.mark] 34)) (.cells #[.bool B.blank, .bool B.mark] 34)
    have rz : w5.heap.size + 1 < ((w5.alloc (.cells #[.bool A.blank, .bool A.mark] 34)).alloc (.cells #[.bool B.blank, .bool B.mark] 34)).heap.size := by simp
    generalize ((w5.alloc (.cells #[.bool A.blank, .bool A.mark] 34)).alloc (.cells #[.bool B.blank, .bool B.mark] 34)) = W2 at *
    rw [World.size_alloc] at R2
    have k0 := blk_cell R1 0
    have k1 := blk_cell R1 1
    have k2 := blk_cell R2 0
    have k3 := blk_cell R2 1
    simp at k0 k1 k2 k3
    go_region_held3 (fun wx => wx.cell? ⟨w5.heap.size, 0, none⟩ = some (.bool A.blank) ∧ wx.cell? ⟨w5.heap.size, 1, none⟩ = some (.bool A.mark) ∧ wx.cell? ⟨w5.heap.size + 1, 0, none⟩ = some (.bool B.blank) ∧ wx.cell? ⟨w5.heap.size + 1, 1, none⟩ = some (.bool B.mark) ∧ Below W2.heap.size W2 wx)
      (first | exact ⟨k0, k1, k2, k3, (Below.refl _ _).drew⟩ | exact keep4 (by omega) (by omega) (by assumption) (by assumption))
      (first | (go_at_call 14; refine (leans_sides _ _ _).mono ?_; rintro e w6 ⟨rfl, hb7⟩))
    have hS : w6.cell? ⟨w5.heap.size, 0, none⟩ = some (.bool A.blank) ∧ w6.cell? ⟨w5.heap.size, 1, none⟩ = some (.bool A.mark) ∧ w6.cell? ⟨w5.heap.size + 1, 0, none⟩ = some (.bool B.blank) ∧ w6.cell? ⟨w5.heap.size + 1, 1, none⟩ = some (.bool B.mark) ∧ Below W2.heap.size W2 w6 := by assumption
    obtain ⟨l0, l1, l2, l3, hw6⟩ := hS
    have hz5 := hw5.size
    have hz6 := hw6.size
    have Q6 := below_block hw6 (k := w.heap.size) (by omega) (below_block hb6 (by omega) (below_block hw5 (by omega) Q0.out))
    have hB6 : Below w.heap.size w w6 := (hB.trans (hw5.mono (by omega))).trans ((hb6.trans (hw6.mono (by omega))).mono (by omega))
    have y0 := blk_cell Q6 0
    have y1 := blk_cell Q6 1
    have y2 := blk_cell Q6 2
    have y3 := blk_cell Q6 3
    have z0 := blk_free Q6 0
    have z1 := blk_free Q6 1
    have z2 := blk_free Q6 2
    have z3 := blk_free Q6 3
    simp at y0 y1 y2 y3
    clear hb7 R1 R2 k0 k1 k2 k3 hb6 hw5 Q0 Q6
    have hfl0 := Lib.hid (show flags false A B = (leansB B A, leansB A B) from rfl)
    have hfl1 := Lib.hid (show flags true A B = (leansB B A && (!leansB A B || A.mark), leansB A B && (!leansB B A || B.mark)) from rfl)
    generalize leansB B A = L at *
    generalize leansB A B = R at *
    cases hm : (m == 95) with
    | false =>
      go_wp2
      refine bodyPost_ret (v := .tuple #[.agg #[.int .u8 m, .int .i64 k, .bool L, .bool R], .bool true]) (by simp [results, Tryd.results8, go_sem, y0, y1, y2, y3]) rfl ⟨?_, ?_⟩
      · rw [HK.out, HA.out, HBe.out, hm, hfl0.out]
      · go_grown
    | true =>
      have H1 := hfl1
      clear hfl0 hfl1
      cases L with
      | false =>
        cases R with
        | false =>
          go_wp2_with fail
          go_quiet (fail)
          go_wp2
          refine bodyPost_ret (v := .tuple #[.agg #[.int .u8 m, .int .i64 k, .bool false, .bool false], .bool true]) (by simp [results, Tryd.results8, go_sem, y0, y1, y2, y3]) rfl ⟨?_, ?_⟩
          · rw [HK.out, HA.out, HBe.out, hm, H1.out]; rfl
          · go_grown
            exact below_drewN hB6 _
        | true =>
          go_wp2_with fail
          go_quiet (fail)
          go_wp2
          refine bodyPost_ret (v := .tuple #[.agg #[.int .u8 m, .int .i64 k, .bool false, .bool true], .bool true]) (by simp [results, Tryd.results8, go_sem, y0, y1, y2, y3]) rfl ⟨?_, ?_⟩
          · rw [HK.out, HA.out, HBe.out, hm, H1.out]; rfl
          · go_grown
            exact below_drewN hB6 _
      | true =>
        cases R with
        | false =>
          go_wp2_with fail
          go_quiet (fail)
          go_wp2
          refine bodyPost_ret (v := .tuple #[.agg #[.int .u8 m, .int .i64 k, .bool true, .bool false], .bool true]) (by simp [results, Tryd.results8, go_sem, y0, y1, y2, y3]) rfl ⟨?_, ?_⟩
          · rw [HK.out, HA.out, HBe.out, hm, H1.out]; rfl
          · go_grown
            exact below_drewN hB6 _
        | true =>
          go_wp2_with fail
          go_quiet (fail)
          go_wp2
          refine bodyPost_ret (v := .tuple #[.agg #[.int .u8 m, .int .i64 k, .bool A.mark, .bool B.mark], .bool true]) (by simp [results, Tryd.results8, go_sem, y0, y1, y2, y3]) rfl ⟨?_, ?_⟩
          · rw [HK.out, HA.out, HBe.out, hm, H1.out]; rfl
          · go_grown
            exact below_drewN hB6 _

end Go.Proofs.YtkpjcbpfpfjjkaaDoor
