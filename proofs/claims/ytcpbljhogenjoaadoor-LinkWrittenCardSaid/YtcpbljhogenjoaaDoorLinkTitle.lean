/- Walks: link.Title. -/
import Derived.Test.YtcpbljhogenjoaaDoorEscPlain
import Derived.Test.YtcpbljhogenjoaaDoorLinkC
namespace Go.Proofs.YtcpbljhogenjoaaDoor
set_option linter.unusedVariables false
set_option linter.unusedSimpArgs false
open Go Go.RowKit Go.Shelf Go.Lib

theorem title_no (t : ByteArray) (h1 : Lib.hasPrefix t.data.toList [34] = false) (h2 : Lib.hasPrefix t.data.toList [39] = false) (h3 : Lib.hasPrefix t.data.toList [40] = false) : titleF t 0 = (⟨#[]⟩, 0) := by
  rw [pre_at0] at h1 h2 h3
  unfold titleF
  rw [if_neg]
  cases hd : decide (0 < t.size) with
  | false => simp
  | true =>
    rw [hd, Bool.true_and] at h1 h2 h3
    rw [h1, h2, h3]; decide

theorem title_of (t : ByteArray) (c : UInt8) (hc : c = 34 ∨ c = 39 ∨ c = 40) (h : Lib.hasPrefix t.data.toList [c] = true) (e : Nat) (he : upF t (tstopU c) 1 = e) :
    titleF t 0 = if (decide (e < t.size) && byteU t e == endU c) = true then (plainF (t.extract 1 e), e + 1) else (⟨#[]⟩, 0) := by
  rw [pre_at0] at h
  simp only [Bool.and_eq_true, decide_eq_true_eq, beq_iff_eq] at h
  unfold titleF
  rw [h.2]
  have : (decide (0 < t.size) && (c == 34 || (c == 39 || c == 40))) = true := by
    rw [decide_eq_true h.1]
    rcases hc with rfl | rfl | rfl <;> rfl
  rw [if_pos this]
  simp only [Nat.zero_add, he, Nat.sub_zero]

theorem tstop_contains (c d x : UInt8) (h : endU c = d) : (ByteArray.mk #[c, d]).data.toList.contains x = tstopU c x := by
  show [c, d].contains x = _
  unfold tstopU
  rw [h]
  simp only [List.contains, List.elem]
  cases (x == c) <;> cases (x == d) <;> rfl

theorem pre_other (t : ByteArray) (c d : UInt8) (h : Lib.hasPrefix t.data.toList [c] = true) (hne : c ≠ d) : Lib.hasPrefix t.data.toList [d] = false := by
  rw [pre_at0] at h ⊢
  simp only [Bool.and_eq_true, decide_eq_true_eq, beq_iff_eq] at h
  rw [h.2, beq_eq_false_iff_ne.2 hne, Bool.and_false]

theorem pre_pos (t : ByteArray) (c : UInt8) (h : Lib.hasPrefix t.data.toList [c] = true) : 0 < t.size := by
  rw [pre_at0] at h
  simp only [Bool.and_eq_true, decide_eq_true_eq] at h; exact h.1


set_option maxHeartbeats 4000000 in
set_option maxRecDepth 100000 in
theorem Title_no (s t : ByteArray) (a : Int) (w : World) (hE : EnvE w) (hts : t.size ≤ 1000000) (hfr : ∀ w, Calls Tryd.prog 13 #[.string s, .int .i64 a] w fun e w' => e = .returned (.string t) ∧ w' = w)
    (h1 : Lib.hasPrefix t.data.toList [34] = false) (h2 : Lib.hasPrefix t.data.toList [39] = false) (h3 : Lib.hasPrefix t.data.toList [40] = false) :
    Calls Tryd.prog 8 #[.string s, .int .i64 a] w fun e w' => e = .returned (.tuple #[.string (titleF t 0).1, .int .i64 ((titleF t 0).2 : Nat)]) ∧ Below w.heap.size w w' := by
  have hr := Lib.hid (title_no t h1 h2 h3)
  have hp34 := fun w => Tryd.strings_HasPrefix t ⟨#[34]⟩ w
  rw [show (ByteArray.mk #[34]).data.toList = [34] from rfl, h1] at hp34
  have hp39 := fun w => Tryd.strings_HasPrefix t ⟨#[39]⟩ w
  rw [show (ByteArray.mk #[39]).data.toList = [39] from rfl, h2] at hp39
  have hp40 := fun w => Tryd.strings_HasPrefix t ⟨#[40]⟩ w
  rw [show (ByteArray.mk #[40]).data.toList = [40] from rfl, h3] at hp40
  clear h1 h2 h3 hE
  go_enter Tryd.func8, Tryd.ntmps8
  go_wp2_with fail
  refine (hfr _).mono ?_
  rintro e w1 ⟨rfl, rfl⟩
  go_wp2_with fail
  have hB0 := (Below.refl w1.heap.size w1).alloc (Nat.le_refl _) (Obj.cells #[Value.string { data := #[34, 34] }, Value.string { data := #[39, 39] }, Value.string { data := #[40, 41] }] 9)
  have K := heap_alloc_new w1 (Obj.cells #[Value.string { data := #[34, 34] }, Value.string { data := #[39, 39] }, Value.string { data := #[40, 41] }] 9)
  generalize w1.alloc (Obj.cells #[Value.string { data := #[34, 34] }, Value.string { data := #[39, 39] }, Value.string { data := #[40, 41] }] 9) = w2 at *
  have K0 := blk_cell K 0
  have K1 := blk_cell K 1
  have K2 := blk_cell K 2
  simp at K0 K1 K2
  clear K
  refine wp_loop_rounds 4 ?_
  rw [rounds_succ]
  go_wp2_with fail
  refine (hp34 _).mono ?_
  rintro e w3 ⟨rfl, rfl⟩
  go_wp2_with fail
  rw [rounds_succ]
  go_wp2_with fail
  refine (hp39 _).mono ?_
  rintro e w3 ⟨rfl, rfl⟩
  go_wp2_with fail
  rw [rounds_succ]
  go_wp2_with fail
  refine (hp40 _).mono ?_
  rintro e w3 ⟨rfl, rfl⟩
  go_wp2_with fail
  rw [rounds_succ]
  go_wp2_with fail
  go_ret2
  exact ⟨ret_si (by rw [hr.out]) (by rw [hr.out]; rfl), hB0⟩


set_option maxHeartbeats 4000000 in
set_option maxRecDepth 100000 in
theorem Title_34 (s t : ByteArray) (a : Int) (w : World) (hE : EnvE w) (hts : t.size ≤ 1000000) (hfr : ∀ w, Calls Tryd.prog 13 #[.string s, .int .i64 a] w fun e w' => e = .returned (.string t) ∧ w' = w)
    (h : Lib.hasPrefix t.data.toList [34] = true) :
    Calls Tryd.prog 8 #[.string s, .int .i64 a] w fun e w' => e = .returned (.tuple #[.string (titleF t 0).1, .int .i64 ((titleF t 0).2 : Nat)]) ∧ Below w.heap.size w w' := by
  have HE := Lib.hid hE
  have mixed : Tryd.prog.follows .mixedOrders = true := by kernel_rfl
  have h0 := pre_pos t 34 h
  have hof := Lib.hid (title_of t 34 (by decide) h _ rfl)

  have hp34 := fun w => Tryd.strings_HasPrefix t ⟨#[34]⟩ w
  rw [show (ByteArray.mk #[34]).data.toList = [34] from rfl, h] at hp34
  have hup := fun w => upTo_calls t ⟨#[34, 34]⟩ (tstopU 34) (fun x => tstop_contains 34 34 x rfl) 1 (by omega) w hts
  have hge := upF_ge t (tstopU 34) 1
  have hpl := fun e w hE => Plain_calls' (t.extract 1 e) w hE (by rw [ByteArray.size_extract]; omega)
  rw [show endU 34 = 34 from rfl] at hof
  unfold upI at hup
  generalize upF t (tstopU 34) 1 = e at *
  clear h hE
  by_cases he : e < t.size
  · rw [if_pos he] at hup
    have i0 : (0 : Int) ≤ (e : Int) := by omega
    have n0 : ((e : Int) < 0) = False := eq_false (by omega)
    have n1 : decide ((e : Int) < 0) = false := decide_eq_false (by omega)
    have i1 : (e : Int) < (t.size : Int) := by omega
    have i2 : (1 : Int) ≤ (e : Int) := by omega
    have i3 : (e : Int) ≤ (t.size : Int) := by omega
    have ub : ((t[e].toNat : Int) != (((ByteArray.mk #[34, 34])[1]'(by decide)).toNat : Int)) = !(t[e] == 34) := by rw [bne, show ((t[e].toNat : Int) == (((ByteArray.mk #[34, 34])[1]'(by decide)).toNat : Int)) = (t[e] == 34) from u8_eq t[e] 34]
    cases b : (t[e] == 34) with
    | true =>
      have hr : Hid (titleF t 0 = (plainF (t.extract 1 e), e + 1)) := by show _ = _; rw [hof.out, byteU_in t e he, b, decide_eq_true he]; rfl
      rw [b] at ub
      simp only [Bool.not_true, Bool.not_false] at ub
      clear hof
      go_enter Tryd.func8, Tryd.ntmps8
      go_wp2_with fail
      refine (hfr _).mono ?_
      rintro e w1 ⟨rfl, rfl⟩
      go_wp2_with fail
      have hB0 := (Below.refl w1.heap.size w1).alloc (Nat.le_refl _) (Obj.cells #[Value.string { data := #[34, 34] }, Value.string { data := #[39, 39] }, Value.string { data := #[40, 41] }] 9)
      have K := heap_alloc_new w1 (Obj.cells #[Value.string { data := #[34, 34] }, Value.string { data := #[39, 39] }, Value.string { data := #[40, 41] }] 9)
      generalize w1.alloc (Obj.cells #[Value.string { data := #[34, 34] }, Value.string { data := #[39, 39] }, Value.string { data := #[40, 41] }] 9) = w2 at *
      have K0 := blk_cell K 0
      have K1 := blk_cell K 1
      have K2 := blk_cell K 2
      simp at K0 K1 K2
      clear K
      refine wp_loop_rounds 4 ?_
      rw [rounds_succ]
      go_wp2_with fail
      refine (hp34 _).mono ?_
      rintro e w3 ⟨rfl, rfl⟩
      go_wp2_with fail
      refine (hup _).mono ?_
      rintro e' w3 ⟨rfl, hB⟩
      go_wp2_with fail
      go_region_o
      go_wp2_with fail
      have hB1 := hB0.trans ((hB.trans (bel_drewN (Below.refl _ _) 1)).mono hB0.size)
      refine (hpl e _ (HE.out.below hB1)).mono ?_
      rintro e' w4 ⟨rfl, hB2⟩
      go_wp2_with fail
      go_ret2
      exact ⟨ret_si (by rw [hr.out]) (by rw [hr.out]; try rfl), hB1.trans (hB2.mono hB1.size)⟩
    | false =>
      have hr : Hid (titleF t 0 = (⟨#[]⟩, 0)) := by show _ = _; rw [hof.out, byteU_in t e he, b]; simp
      rw [b] at ub
      simp only [Bool.not_true, Bool.not_false] at ub
      clear hof
      go_enter Tryd.func8, Tryd.ntmps8
      go_wp2_with fail
      refine (hfr _).mono ?_
      rintro e w1 ⟨rfl, rfl⟩
      go_wp2_with fail
      have hB0 := (Below.refl w1.heap.size w1).alloc (Nat.le_refl _) (Obj.cells #[Value.string { data := #[34, 34] }, Value.string { data := #[39, 39] }, Value.string { data := #[40, 41] }] 9)
      have K := heap_alloc_new w1 (Obj.cells #[Value.string { data := #[34, 34] }, Value.string { data := #[39, 39] }, Value.string { data := #[40, 41] }] 9)
      generalize w1.alloc (Obj.cells #[Value.string { data := #[34, 34] }, Value.string { data := #[39, 39] }, Value.string { data := #[40, 41] }] 9) = w2 at *
      have K0 := blk_cell K 0
      have K1 := blk_cell K 1
      have K2 := blk_cell K 2
      simp at K0 K1 K2
      clear K
      refine wp_loop_rounds 4 ?_
      rw [rounds_succ]
      go_wp2_with fail
      refine (hp34 _).mono ?_
      rintro e w3 ⟨rfl, rfl⟩
      go_wp2_with fail
      refine (hup _).mono ?_
      rintro e' w3 ⟨rfl, hB⟩
      go_wp2_with fail
      go_region_o
      go_wp2_with fail
      have hB1 := hB0.trans ((hB.trans (bel_drewN (Below.refl _ _) 1)).mono hB0.size)
      go_ret2
      exact ⟨ret_si (by rw [hr.out]) (by rw [hr.out]; rfl), hB1⟩
  · rw [if_neg he] at hup
    have hr : Hid (titleF t 0 = (⟨#[]⟩, 0)) := by show _ = _; rw [hof.out, decide_eq_false he]; rfl
    clear hof
    go_enter Tryd.func8, Tryd.ntmps8
    go_wp2_with fail
    refine (hfr _).mono ?_
    rintro e w1 ⟨rfl, rfl⟩
    go_wp2_with fail
    have hB0 := (Below.refl w1.heap.size w1).alloc (Nat.le_refl _) (Obj.cells #[Value.string { data := #[34, 34] }, Value.string { data := #[39, 39] }, Value.string { data := #[40, 41] }] 9)
    have K := heap_alloc_new w1 (Obj.cells #[Value.string { data := #[34, 34] }, Value.string { data := #[39, 39] }, Value.string { data := #[40, 41] }] 9)
    generalize w1.alloc (Obj.cells #[Value.string { data := #[34, 34] }, Value.string { data := #[39, 39] }, Value.string { data := #[40, 41] }] 9) = w2 at *
    have K0 := blk_cell K 0
    have K1 := blk_cell K 1
    have K2 := blk_cell K 2
    simp at K0 K1 K2
    clear K
    refine wp_loop_rounds 4 ?_
    rw [rounds_succ]
    go_wp2_with fail
    refine (hp34 _).mono ?_
    rintro e w3 ⟨rfl, rfl⟩
    go_wp2_with fail
    refine (hup _).mono ?_
    rintro e' w3 ⟨rfl, hB⟩
    go_wp2_with fail
    try (go_region_o; go_wp2_with fail)
    have hB1 := hB0.trans ((hB.trans (bel_drewN (Below.refl _ _) 1)).mono hB0.size)
    go_ret2
    exact ⟨ret_si (by rw [hr.out]) (by rw [hr.out]; rfl), hB1⟩


set_option maxHeartbeats 4000000 in
set_option maxRecDepth 100000 in
theorem Title_39 (s t : ByteArray) (a : Int) (w : World) (hE : EnvE w) (hts : t.size ≤ 1000000) (hfr : ∀ w, Calls Tryd.prog 13 #[.string s, .int .i64 a] w fun e w' => e = .returned (.string t) ∧ w' = w)
    (h : Lib.hasPrefix t.data.toList [39] = true) :
    Calls Tryd.prog 8 #[.string s, .int .i64 a] w fun e w' => e = .returned (.tuple #[.string (titleF t 0).1, .int .i64 ((titleF t 0).2 : Nat)]) ∧ Below w.heap.size w w' := by
  have HE := Lib.hid hE
  have mixed : Tryd.prog.follows .mixedOrders = true := by kernel_rfl
  have h0 := pre_pos t 39 h
  have hof := Lib.hid (title_of t 39 (by decide) h _ rfl)
  have hp34 := fun w => Tryd.strings_HasPrefix t ⟨#[34]⟩ w
  rw [show (ByteArray.mk #[34]).data.toList = [34] from rfl, pre_other t 39 34 h (by decide)] at hp34
  have hp39 := fun w => Tryd.strings_HasPrefix t ⟨#[39]⟩ w
  rw [show (ByteArray.mk #[39]).data.toList = [39] from rfl, h] at hp39
  have hup := fun w => upTo_calls t ⟨#[39, 39]⟩ (tstopU 39) (fun x => tstop_contains 39 39 x rfl) 1 (by omega) w hts
  have hge := upF_ge t (tstopU 39) 1
  have hpl := fun e w hE => Plain_calls' (t.extract 1 e) w hE (by rw [ByteArray.size_extract]; omega)
  rw [show endU 39 = 39 from rfl] at hof
  unfold upI at hup
  generalize upF t (tstopU 39) 1 = e at *
  clear h hE
  by_cases he : e < t.size
  · rw [if_pos he] at hup
    have i0 : (0 : Int) ≤ (e : Int) := by omega
    have n0 : ((e : Int) < 0) = False := eq_false (by omega)
    have n1 : decide ((e : Int) < 0) = false := decide_eq_false (by omega)
    have i1 : (e : Int) < (t.size : Int) := by omega
    have i2 : (1 : Int) ≤ (e : Int) := by omega
    have i3 : (e : Int) ≤ (t.size : Int) := by omega
    have ub : ((t[e].toNat : Int) != (((ByteArray.mk #[39, 39])[1]'(by decide)).toNat : Int)) = !(t[e] == 39) := by rw [bne, show ((t[e].toNat : Int) == (((ByteArray.mk #[39, 39])[1]'(by decide)).toNat : Int)) = (t[e] == 39) from u8_eq t[e] 39]
    cases b : (t[e] == 39) with
    | true =>
      have hr : Hid (titleF t 0 = (plainF (t.extract 1 e), e + 1)) := by show _ = _; rw [hof.out, byteU_in t e he, b, decide_eq_true he]; rfl
      rw [b] at ub
      simp only [Bool.not_true, Bool.not_false] at ub
      clear hof
      go_enter Tryd.func8, Tryd.ntmps8
      go_wp2_with fail
      refine (hfr _).mono ?_
      rintro e w1 ⟨rfl, rfl⟩
      go_wp2_with fail
      have hB0 := (Below.refl w1.heap.size w1).alloc (Nat.le_refl _) (Obj.cells #[Value.string { data := #[34, 34] }, Value.string { data := #[39, 39] }, Value.string { data := #[40, 41] }] 9)
      have K := heap_alloc_new w1 (Obj.cells #[Value.string { data := #[34, 34] }, Value.string { data := #[39, 39] }, Value.string { data := #[40, 41] }] 9)
      generalize w1.alloc (Obj.cells #[Value.string { data := #[34, 34] }, Value.string { data := #[39, 39] }, Value.string { data := #[40, 41] }] 9) = w2 at *
      have K0 := blk_cell K 0
      have K1 := blk_cell K 1
      have K2 := blk_cell K 2
      simp at K0 K1 K2
      clear K
      refine wp_loop_rounds 4 ?_
      rw [rounds_succ]
      go_wp2_with fail
      refine (hp34 _).mono ?_
      rintro e w3 ⟨rfl, rfl⟩
      go_wp2_with fail
      rw [rounds_succ]
      go_wp2_with fail
      refine (hp39 _).mono ?_
      rintro e w3 ⟨rfl, rfl⟩
      go_wp2_with fail
      refine (hup _).mono ?_
      rintro e' w3 ⟨rfl, hB⟩
      go_wp2_with fail
      go_region_o
      go_wp2_with fail
      have hB1 := hB0.trans ((hB.trans (bel_drewN (Below.refl _ _) 1)).mono hB0.size)
      refine (hpl e _ (HE.out.below hB1)).mono ?_
      rintro e' w4 ⟨rfl, hB2⟩
      go_wp2_with fail
      go_ret2
      exact ⟨ret_si (by rw [hr.out]) (by rw [hr.out]; try rfl), hB1.trans (hB2.mono hB1.size)⟩
    | false =>
      have hr : Hid (titleF t 0 = (⟨#[]⟩, 0)) := by show _ = _; rw [hof.out, byteU_in t e he, b]; simp
      rw [b] at ub
      simp only [Bool.not_true, Bool.not_false] at ub
      clear hof
      go_enter Tryd.func8, Tryd.ntmps8
      go_wp2_with fail
      refine (hfr _).mono ?_
      rintro e w1 ⟨rfl, rfl⟩
      go_wp2_with fail
      have hB0 := (Below.refl w1.heap.size w1).alloc (Nat.le_refl _) (Obj.cells #[Value.string { data := #[34, 34] }, Value.string { data := #[39, 39] }, Value.string { data := #[40, 41] }] 9)
      have K := heap_alloc_new w1 (Obj.cells #[Value.string { data := #[34, 34] }, Value.string { data := #[39, 39] }, Value.string { data := #[40, 41] }] 9)
      generalize w1.alloc (Obj.cells #[Value.string { data := #[34, 34] }, Value.string { data := #[39, 39] }, Value.string { data := #[40, 41] }] 9) = w2 at *
      have K0 := blk_cell K 0
      have K1 := blk_cell K 1
      have K2 := blk_cell K 2
      simp at K0 K1 K2
      clear K
      refine wp_loop_rounds 4 ?_
      rw [rounds_succ]
      go_wp2_with fail
      refine (hp34 _).mono ?_
      rintro e w3 ⟨rfl, rfl⟩
      go_wp2_with fail
      rw [rounds_succ]
      go_wp2_with fail
      refine (hp39 _).mono ?_
      rintro e w3 ⟨rfl, rfl⟩
      go_wp2_with fail
      refine (hup _).mono ?_
      rintro e' w3 ⟨rfl, hB⟩
      go_wp2_with fail
      go_region_o
      go_wp2_with fail
      have hB1 := hB0.trans ((hB.trans (bel_drewN (Below.refl _ _) 1)).mono hB0.size)
      go_ret2
      exact ⟨ret_si (by rw [hr.out]) (by rw [hr.out]; rfl), hB1⟩
  · rw [if_neg he] at hup
    have hr : Hid (titleF t 0 = (⟨#[]⟩, 0)) := by show _ = _; rw [hof.out, decide_eq_false he]; rfl
    clear hof
    go_enter Tryd.func8, Tryd.ntmps8
    go_wp2_with fail
    refine (hfr _).mono ?_
    rintro e w1 ⟨rfl, rfl⟩
    go_wp2_with fail
    have hB0 := (Below.refl w1.heap.size w1).alloc (Nat.le_refl _) (Obj.cells #[Value.string { data := #[34, 34] }, Value.string { data := #[39, 39] }, Value.string { data := #[40, 41] }] 9)
    have K := heap_alloc_new w1 (Obj.cells #[Value.string { data := #[34, 34] }, Value.string { data := #[39, 39] }, Value.string { data := #[40, 41] }] 9)
    generalize w1.alloc (Obj.cells #[Value.string { data := #[34, 34] }, Value.string { data := #[39, 39] }, Value.string { data := #[40, 41] }] 9) = w2 at *
    have K0 := blk_cell K 0
    have K1 := blk_cell K 1
    have K2 := blk_cell K 2
    simp at K0 K1 K2
    clear K
    refine wp_loop_rounds 4 ?_
    rw [rounds_succ]
    go_wp2_with fail
    refine (hp34 _).mono ?_
    rintro e w3 ⟨rfl, rfl⟩
    go_wp2_with fail
    rw [rounds_succ]
    go_wp2_with fail
    refine (hp39 _).mono ?_
    rintro e w3 ⟨rfl, rfl⟩
    go_wp2_with fail
    refine (hup _).mono ?_
    rintro e' w3 ⟨rfl, hB⟩
    go_wp2_with fail
    try (go_region_o; go_wp2_with fail)
    have hB1 := hB0.trans ((hB.trans (bel_drewN (Below.refl _ _) 1)).mono hB0.size)
    go_ret2
    exact ⟨ret_si (by rw [hr.out]) (by rw [hr.out]; rfl), hB1⟩


set_option maxHeartbeats 4000000 in
set_option maxRecDepth 100000 in
theorem Title_40 (s t : ByteArray) (a : Int) (w : World) (hE : EnvE w) (hts : t.size ≤ 1000000) (hfr : ∀ w, Calls Tryd.prog 13 #[.string s, .int .i64 a] w fun e w' => e = .returned (.string t) ∧ w' = w)
    (h : Lib.hasPrefix t.data.toList [40] = true) :
    Calls Tryd.prog 8 #[.string s, .int .i64 a] w fun e w' => e = .returned (.tuple #[.string (titleF t 0).1, .int .i64 ((titleF t 0).2 : Nat)]) ∧ Below w.heap.size w w' := by
  have HE := Lib.hid hE
  have mixed : Tryd.prog.follows .mixedOrders = true := by kernel_rfl
  have h0 := pre_pos t 40 h
  have hof := Lib.hid (title_of t 40 (by decide) h _ rfl)
  have hp34 := fun w => Tryd.strings_HasPrefix t ⟨#[34]⟩ w
  rw [show (ByteArray.mk #[34]).data.toList = [34] from rfl, pre_other t 40 34 h (by decide)] at hp34
  have hp39 := fun w => Tryd.strings_HasPrefix t ⟨#[39]⟩ w
  rw [show (ByteArray.mk #[39]).data.toList = [39] from rfl, pre_other t 40 39 h (by decide)] at hp39
  have hp40 := fun w => Tryd.strings_HasPrefix t ⟨#[40]⟩ w
  rw [show (ByteArray.mk #[40]).data.toList = [40] from rfl, h] at hp40
  have hup := fun w => upTo_calls t ⟨#[40, 41]⟩ (tstopU 40) (fun x => tstop_contains 40 41 x rfl) 1 (by omega) w hts
  have hge := upF_ge t (tstopU 40) 1
  have hpl := fun e w hE => Plain_calls' (t.extract 1 e) w hE (by rw [ByteArray.size_extract]; omega)
  rw [show endU 40 = 41 from rfl] at hof
  unfold upI at hup
  generalize upF t (tstopU 40) 1 = e at *
  clear h hE
  by_cases he : e < t.size
  · rw [if_pos he] at hup
    have i0 : (0 : Int) ≤ (e : Int) := by omega
    have n0 : ((e : Int) < 0) = False := eq_false (by omega)
    have n1 : decide ((e : Int) < 0) = false := decide_eq_false (by omega)
    have i1 : (e : Int) < (t.size : Int) := by omega
    have i2 : (1 : Int) ≤ (e : Int) := by omega
    have i3 : (e : Int) ≤ (t.size : Int) := by omega
    have ub : ((t[e].toNat : Int) != (((ByteArray.mk #[40, 41])[1]'(by decide)).toNat : Int)) = !(t[e] == 41) := by rw [bne, show ((t[e].toNat : Int) == (((ByteArray.mk #[40, 41])[1]'(by decide)).toNat : Int)) = (t[e] == 41) from u8_eq t[e] 41]
    cases b : (t[e] == 41) with
    | true =>
      have hr : Hid (titleF t 0 = (plainF (t.extract 1 e), e + 1)) := by show _ = _; rw [hof.out, byteU_in t e he, b, decide_eq_true he]; rfl
      rw [b] at ub
      simp only [Bool.not_true, Bool.not_false] at ub
      clear hof
      go_enter Tryd.func8, Tryd.ntmps8
      go_wp2_with fail
      refine (hfr _).mono ?_
      rintro e w1 ⟨rfl, rfl⟩
      go_wp2_with fail
      have hB0 := (Below.refl w1.heap.size w1).alloc (Nat.le_refl _) (Obj.cells #[Value.string { data := #[34, 34] }, Value.string { data := #[39, 39] }, Value.string { data := #[40, 41] }] 9)
      have K := heap_alloc_new w1 (Obj.cells #[Value.string { data := #[34, 34] }, Value.string { data := #[39, 39] }, Value.string { data := #[40, 41] }] 9)
      generalize w1.alloc (Obj.cells #[Value.string { data := #[34, 34] }, Value.string { data := #[39, 39] }, Value.string { data := #[40, 41] }] 9) = w2 at *
      have K0 := blk_cell K 0
      have K1 := blk_cell K 1
      have K2 := blk_cell K 2
      simp at K0 K1 K2
      clear K
      refine wp_loop_rounds 4 ?_
      rw [rounds_succ]
      go_wp2_with fail
      refine (hp34 _).mono ?_
      rintro e w3 ⟨rfl, rfl⟩
      go_wp2_with fail
      rw [rounds_succ]
      go_wp2_with fail
      refine (hp39 _).mono ?_
      rintro e w3 ⟨rfl, rfl⟩
      go_wp2_with fail
      rw [rounds_succ]
      go_wp2_with fail
      refine (hp40 _).mono ?_
      rintro e w3 ⟨rfl, rfl⟩
      go_wp2_with fail
      refine (hup _).mono ?_
      rintro e' w3 ⟨rfl, hB⟩
      go_wp2_with fail
      go_region_o
      go_wp2_with fail
      have hB1 := hB0.trans ((hB.trans (bel_drewN (Below.refl _ _) 1)).mono hB0.size)
      refine (hpl e _ (HE.out.below hB1)).mono ?_
      rintro e' w4 ⟨rfl, hB2⟩
      go_wp2_with fail
      go_ret2
      exact ⟨ret_si (by rw [hr.out]) (by rw [hr.out]; try rfl), hB1.trans (hB2.mono hB1.size)⟩
    | false =>
      have hr : Hid (titleF t 0 = (⟨#[]⟩, 0)) := by show _ = _; rw [hof.out, byteU_in t e he, b]; simp
      rw [b] at ub
      simp only [Bool.not_true, Bool.not_false] at ub
      clear hof
      go_enter Tryd.func8, Tryd.ntmps8
      go_wp2_with fail
      refine (hfr _).mono ?_
      rintro e w1 ⟨rfl, rfl⟩
      go_wp2_with fail
      have hB0 := (Below.refl w1.heap.size w1).alloc (Nat.le_refl _) (Obj.cells #[Value.string { data := #[34, 34] }, Value.string { data := #[39, 39] }, Value.string { data := #[40, 41] }] 9)
      have K := heap_alloc_new w1 (Obj.cells #[Value.string { data := #[34, 34] }, Value.string { data := #[39, 39] }, Value.string { data := #[40, 41] }] 9)
      generalize w1.alloc (Obj.cells #[Value.string { data := #[34, 34] }, Value.string { data := #[39, 39] }, Value.string { data := #[40, 41] }] 9) = w2 at *
      have K0 := blk_cell K 0
      have K1 := blk_cell K 1
      have K2 := blk_cell K 2
      simp at K0 K1 K2
      clear K
      refine wp_loop_rounds 4 ?_
      rw [rounds_succ]
      go_wp2_with fail
      refine (hp34 _).mono ?_
      rintro e w3 ⟨rfl, rfl⟩
      go_wp2_with fail
      rw [rounds_succ]
      go_wp2_with fail
      refine (hp39 _).mono ?_
      rintro e w3 ⟨rfl, rfl⟩
      go_wp2_with fail
      rw [rounds_succ]
      go_wp2_with fail
      refine (hp40 _).mono ?_
      rintro e w3 ⟨rfl, rfl⟩
      go_wp2_with fail
      refine (hup _).mono ?_
      rintro e' w3 ⟨rfl, hB⟩
      go_wp2_with fail
      go_region_o
      go_wp2_with fail
      have hB1 := hB0.trans ((hB.trans (bel_drewN (Below.refl _ _) 1)).mono hB0.size)
      go_ret2
      exact ⟨ret_si (by rw [hr.out]) (by rw [hr.out]; rfl), hB1⟩
  · rw [if_neg he] at hup
    have hr : Hid (titleF t 0 = (⟨#[]⟩, 0)) := by show _ = _; rw [hof.out, decide_eq_false he]; rfl
    clear hof
    go_enter Tryd.func8, Tryd.ntmps8
    go_wp2_with fail
    refine (hfr _).mono ?_
    rintro e w1 ⟨rfl, rfl⟩
    go_wp2_with fail
    have hB0 := (Below.refl w1.heap.size w1).alloc (Nat.le_refl _) (Obj.cells #[Value.string { data := #[34, 34] }, Value.string { data := #[39, 39] }, Value.string { data := #[40, 41] }] 9)
    have K := heap_alloc_new w1 (Obj.cells #[Value.string { data := #[34, 34] }, Value.string { data := #[39, 39] }, Value.string { data := #[40, 41] }] 9)
    generalize w1.alloc (Obj.cells #[Value.string { data := #[34, 34] }, Value.string { data := #[39, 39] }, Value.string { data := #[40, 41] }] 9) = w2 at *
    have K0 := blk_cell K 0
    have K1 := blk_cell K 1
    have K2 := blk_cell K 2
    simp at K0 K1 K2
    clear K
    refine wp_loop_rounds 4 ?_
    rw [rounds_succ]
    go_wp2_with fail
    refine (hp34 _).mono ?_
    rintro e w3 ⟨rfl, rfl⟩
    go_wp2_with fail
    rw [rounds_succ]
    go_wp2_with fail
    refine (hp39 _).mono ?_
    rintro e w3 ⟨rfl, rfl⟩
    go_wp2_with fail
    rw [rounds_succ]
    go_wp2_with fail
    refine (hp40 _).mono ?_
    rintro e w3 ⟨rfl, rfl⟩
    go_wp2_with fail
    refine (hup _).mono ?_
    rintro e' w3 ⟨rfl, hB⟩
    go_wp2_with fail
    try (go_region_o; go_wp2_with fail)
    have hB1 := hB0.trans ((hB.trans (bel_drewN (Below.refl _ _) 1)).mono hB0.size)
    go_ret2
    exact ⟨ret_si (by rw [hr.out]) (by rw [hr.out]; rfl), hB1⟩


theorem Title_calls (s : ByteArray) (a : Int) (w : World) (hE : EnvE w) (hs : s.size ≤ 1000000) :
    Calls Tryd.prog 8 #[.string s, .int .i64 a] w fun e w' => e = .returned (.tuple #[.string (titleI s a).1, .int .i64 ((titleI s a).2 : Nat)]) ∧ Below w.heap.size w w' := by
  have hfz := fromF_le s a
  have hfr := fun w => from_calls s a w hs
  unfold titleI
  generalize fromF s a = t at *
  have hts : t.size ≤ 1000000 := by omega
  cases h1 : Lib.hasPrefix t.data.toList [34] with
  | true => exact Title_34 s t a w hE hts hfr h1
  | false =>
    cases h2 : Lib.hasPrefix t.data.toList [39] with
    | true => exact Title_39 s t a w hE hts hfr h2
    | false =>
      cases h3 : Lib.hasPrefix t.data.toList [40] with
      | true => exact Title_40 s t a w hE hts hfr h3
      | false => exact Title_no s t a w hE hts hfr h1 h2 h3

end Go.Proofs.YtcpbljhogenjoaaDoor
