/- Walks: link.Define. -/
import Derived.Test.YtcpbljhogenjoaaDoorLinkTitled
import Derived.Test.YtcpbljhogenjoaaDoorFold2
import Derived.Deep.DeepCutAuto
namespace Go.Proofs.YtcpbljhogenjoaaDoor
set_option linter.unusedVariables false
set_option linter.unusedSimpArgs false
open Go Go.RowKit Go.Shelf Go.Lib

theorem labelF_bd (s : ByteArray) (a : Nat) (h : 0 < (labelF s a).2) : a + (labelF s a).2 ≤ s.size ∧ 2 ≤ (labelF s a).2 ∧ (labelF s a).1.size ≤ s.size := by
  unfold labelF at h ⊢
  have h1 := upF_ge s lstopU (a + 1)
  simp only [] at h ⊢
  split
  · rename_i h2
    simp only [Bool.and_eq_true, decide_eq_true_eq] at h2
    refine ⟨?_, ?_, ?_⟩
    · dsimp only; omega
    · dsimp only; omega
    · dsimp only; rw [ByteArray.size_extract]; omega
  · rename_i h2
    rw [if_neg h2] at h
    exact absurd h (by decide)

theorem labelI_out (s : ByteArray) (a : Int) (h : ¬ (0 ≤ a ∧ a < s.size)) : labelI s a = (⟨#[]⟩, 0) := by
  unfold labelI
  rw [fromF_out s a h]; rfl

/-- a definition's record -/
def defV (d : DefR) : Value := .agg #[.string d.label, .string d.link, .string d.title, .int .i64 (d.from_ : Nat), .int .i64 (d.upto : Nat)]
def defineI (s : ByteArray) (a : Int) : DefR := if 0 ≤ a then defineF s a.toNat else noDef

theorem destF_bd (s : ByteArray) (a : Nat) (h : a ≤ s.size) : a + (destF s a).2 ≤ s.size := by
  unfold destF
  split
  · have := upF_ge s angU (a + 1)
    simp only []
    split
    · rename_i h2
      simp only [Bool.and_eq_true, decide_eq_true_eq] at h2
      dsimp only; omega
    · exact h
  · cases hb : bareF s a with
    | none => exact h
    | some e =>
      have := bareF_bd s a e h hb
      dsimp only; omega

theorem titledP_bd (s : ByteArray) (a : Nat) (h : a ≤ s.size) (ho : (titledP s a).ok = true) : (a : Int) ≤ (titledP s a).upto ∧ (titledP s a).upto ≤ (titledP s a).fin ∧ (titledP s a).fin ≤ s.size := by
  have hg := gapN_le s a h
  rw [tail_gapN s a] at hg
  unfold titledP at ho ⊢
  generalize gapN (s.extract a s.size) 0 = n at *
  split
  · rename_i h2; rw [if_pos h2] at ho; cases ho
  · have hb := titleF_bd s (a + n) hg
    have hr := restP_bd (s.extract (a + n + (titleF s (a + n)).2) s.size)
    rw [tail_sz] at hr
    dsimp only
    omega

theorem def_no1 (s : ByteArray) (a : Nat) (h : (labelF s a).2 = 0) : defineF s a = noDef := by
  unfold defineF
  simp only [h, Nat.lt_irrefl, decide_false, Bool.false_and, Bool.false_eq_true, if_false]
theorem def_no2 (s : ByteArray) (a n : Nat) (h : (labelF s a).2 = n) (h2 : (decide (a + n < s.size) && byteU s (a + n) == 58) = false) : defineF s a = noDef := by
  unfold defineF
  simp only [h, h2, Bool.and_false, Bool.false_eq_true, if_false]
theorem def_no3 (s : ByteArray) (a n f k : Nat) (h : (labelF s a).2 = n) (hf : gapN s (a + n + 1) = f) (hk : (destF s f).2 = k) (h3 : (gapOK s (a + n + 1) && decide (0 < k)) = false) : defineF s a = noDef := by
  unfold defineF
  simp only [h, hf, hk, h3, Bool.false_eq_true, if_false]
  split <;> rfl
theorem def_tit (s : ByteArray) (a f : Nat) (l d : ByteArray) (n k : Nat) (h : labelF s a = (l, n)) (hn : 0 < n) (h2 : (decide (a + n < s.size) && byteU s (a + n) == 58) = true) (hf : gapN s (a + n + 1) = f) (hd : destF s f = (d, k)) (hg : gapOK s (a + n + 1) = true) (hk : 0 < k) (hfk : f + k ≤ s.size) (ho : (titledP s (f + k)).ok = true) :
    defineF s a = ⟨foldF l, d, (titledP s (f + k)).title, a, (titledP s (f + k)).upto.toNat, (titledP s (f + k)).fin.toNat - a⟩ := by
  unfold defineF
  simp only [h, hf, hd, hg, h2, decide_eq_true hn, decide_eq_true hk, Bool.true_and, Bool.and_self, if_true]
  rw [titledF_eq s (f + k) hfk, if_pos ho]
theorem def_rest (s : ByteArray) (a f : Nat) (l d : ByteArray) (n k : Nat) (h : labelF s a = (l, n)) (hn : 0 < n) (h2 : (decide (a + n < s.size) && byteU s (a + n) == 58) = true) (hf : gapN s (a + n + 1) = f) (hd : destF s f = (d, k)) (hg : gapOK s (a + n + 1) = true) (hk : 0 < k) (hfk : f + k ≤ s.size) (ho : (titledP s (f + k)).ok = false) :
    defineF s a = if (restP (s.extract (f + k) s.size)).2 = true then ⟨foldF l, d, ⟨#[]⟩, a, f + k, f + k + (restP (s.extract (f + k) s.size)).1.toNat - a⟩ else noDef := by
  unfold defineF
  simp only [h, hf, hd, hg, h2, decide_eq_true hn, decide_eq_true hk, Bool.true_and, Bool.and_self, if_true]
  rw [titledF_eq s (f + k) hfk, if_neg (by rw [ho]; decide), tail_rest s (f + k) hfk]
  unfold restP
  cases restF2 (s.extract (f + k) s.size) 0 with
  | none => rfl
  | some e => simp

set_option maxHeartbeats 4000000 in
set_option maxRecDepth 100000 in
theorem Define_no1 (s : ByteArray) (a : Int) (w : World) (L : ByteArray) (hlc : ∀ w, Calls Tryd.prog 6 #[.string s, .int .i64 a] w fun e w' => e = .returned (.tuple #[.string L, .int .i64 0]) ∧ Below w.heap.size w w') :
    Calls Tryd.prog 10 #[.string s, .int .i64 a] w fun e w' =>  e = .returned (.tuple #[defV noDef, .int .i64 0]) ∧ Below w.heap.size w w' := by
  go_enter Tryd.func10, Tryd.ntmps10
  go_wp2_with fail
  have hB := (Below.refl w.heap.size w).alloc (Nat.le_refl _) (.cells #[.string ⟨#[]⟩, .string ⟨#[]⟩, .string ⟨#[]⟩, .int .i64 0, .int .i64 0] 27)
  have Q := heap_alloc_new w (.cells #[.string ⟨#[]⟩, .string ⟨#[]⟩, .string ⟨#[]⟩, .int .i64 0, .int .i64 0] 27)
  generalize w.alloc (.cells #[.string ⟨#[]⟩, .string ⟨#[]⟩, .string ⟨#[]⟩, .int .i64 0, .int .i64 0] 27) = W at *
  refine (hlc _).mono ?_
  rintro e w1 ⟨rfl, hB1⟩
  replace Q := below_block hB1 (blk_lt Q) Q
  replace hB := hB.trans (hB1.mono hB.size)
  clear hB1
  have y0 := blk_cell Q 0
  have y1 := blk_cell Q 1
  have y2 := blk_cell Q 2
  have y3 := blk_cell Q 3
  have y4 := blk_cell Q 4
  have z0 := blk_free Q 0
  have z1 := blk_free Q 1
  have z2 := blk_free Q 2
  have z3 := blk_free Q 3
  have z4 := blk_free Q 4
  simp at y0 y1 y2 y3 y4
  go_wp2_with fail
  refine bodyPost_ret (v := .tuple #[defV noDef, .int .i64 0]) (by simp [results, Tryd.results10, go_sem, y0, y1, y2, y3, y4, defV, noDef]) rfl ⟨rfl, ?_⟩
  go_grown

set_option maxHeartbeats 4000000 in
set_option maxRecDepth 100000 in
theorem Define_no2 (s : ByteArray) (a n : Nat) (w : World) (hs : s.size ≤ 1000000) (hn : 0 < n) (hb : a + n ≤ s.size) (L : ByteArray) (hlc : ∀ w, Calls Tryd.prog 6 #[.string s, .int .i64 (a : Nat)] w fun e w' => e = .returned (.tuple #[.string L, .int .i64 (n : Nat)]) ∧ Below w.heap.size w w') (hpr : ∀ w, Calls Tryd.prog 14 #[.string (s.extract (a + n) s.size), .string ⟨#[58]⟩] w fun e w' => e = .returned (.bool false) ∧ w' = w) :
    Calls Tryd.prog 10 #[.string s, .int .i64 (a : Nat)] w fun e w' =>  e = .returned (.tuple #[defV noDef, .int .i64 0]) ∧ Below w.heap.size w w' := by
  have i0 : (0 : Int) ≤ (a : Int) + (n : Int) := by omega
  have i1 : (a : Int) + (n : Int) ≤ (s.size : Int) := by omega
  have d0 : ((n : Int) == 0) = false := beq_eq_false_iff_ne.2 (by omega)
  have e1 : IntKind.i64.wrap ((a : Int) + (n : Int)) = (a : Int) + (n : Int) := IntWalk.i64_in _ (by omega)
  go_enter Tryd.func10, Tryd.ntmps10
  go_wp2_with fail
  have hB := (Below.refl w.heap.size w).alloc (Nat.le_refl _) (.cells #[.string ⟨#[]⟩, .string ⟨#[]⟩, .string ⟨#[]⟩, .int .i64 0, .int .i64 0] 27)
  have Q := heap_alloc_new w (.cells #[.string ⟨#[]⟩, .string ⟨#[]⟩, .string ⟨#[]⟩, .int .i64 0, .int .i64 0] 27)
  generalize w.alloc (.cells #[.string ⟨#[]⟩, .string ⟨#[]⟩, .string ⟨#[]⟩, .int .i64 0, .int .i64 0] 27) = W at *
  refine (hlc _).mono ?_
  rintro e w1 ⟨rfl, hB1⟩
  replace Q := below_block hB1 (blk_lt Q) Q
  replace hB := hB.trans (hB1.mono hB.size)
  clear hB1
  go_wp2_with fail
  refine (hpr _).mono ?_
  rintro e w2 ⟨rfl, rfl⟩
  have y0 := blk_cell Q 0
  have y1 := blk_cell Q 1
  have y2 := blk_cell Q 2
  have y3 := blk_cell Q 3
  have y4 := blk_cell Q 4
  have z0 := blk_free Q 0
  have z1 := blk_free Q 1
  have z2 := blk_free Q 2
  have z3 := blk_free Q 3
  have z4 := blk_free Q 4
  simp at y0 y1 y2 y3 y4
  go_wp2_with fail
  refine bodyPost_ret (v := .tuple #[defV noDef, .int .i64 0]) (by simp [results, Tryd.results10, go_sem, y0, y1, y2, y3, y4, defV, noDef]) rfl ⟨rfl, ?_⟩
  go_grown

set_option maxHeartbeats 4000000 in
set_option maxRecDepth 100000 in
theorem Define_no3 (s : ByteArray) (a n g k : Nat) (w : World) (hE : EnvE w) (hs : s.size ≤ 1000000) (hn : 0 < n) (hb : a + n + 1 + g + k ≤ s.size) (L d : ByteArray) (hlc : ∀ w, Calls Tryd.prog 6 #[.string s, .int .i64 (a : Nat)] w fun e w' => e = .returned (.tuple #[.string L, .int .i64 (n : Nat)]) ∧ Below w.heap.size w w') (hpr : ∀ w, Calls Tryd.prog 14 #[.string (s.extract (a + n) s.size), .string ⟨#[58]⟩] w fun e w' => e = .returned (.bool true) ∧ w' = w) (hgc : ∀ w, Calls Tryd.prog 23 #[.string (s.extract (a + n + 1) s.size)] w fun e w' => e = .returned (.tuple #[.int .i64 (g : Nat), .bool false]) ∧ Below w.heap.size w w') (hdc : ∀ w, EnvE w → Calls Tryd.prog 7 #[.string s, .int .i64 ((a + n + 1 + g : Nat) : Int)] w fun e w' => e = .returned (.tuple #[.string d, .int .i64 (k : Nat)]) ∧ Below w.heap.size w w') :
    Calls Tryd.prog 10 #[.string s, .int .i64 (a : Nat)] w fun e w' =>  e = .returned (.tuple #[defV noDef, .int .i64 0]) ∧ Below w.heap.size w w' := by
  have i0 : (0 : Int) ≤ (a : Int) + (n : Int) := by omega
  have i1 : (a : Int) + (n : Int) ≤ (s.size : Int) := by omega
  have d0 : ((n : Int) == 0) = false := beq_eq_false_iff_ne.2 (by omega)
  have e1 : IntKind.i64.wrap ((a : Int) + (n : Int)) = (a : Int) + (n : Int) := IntWalk.i64_in _ (by omega)
  have e2 : IntKind.i64.wrap ((a : Int) + (n : Int) + 1) = ((a + n + 1 : Nat) : Int) := by rw [IntWalk.i64_in _ (by omega)]; omega
  have i2 : (0 : Int) ≤ ((a + n + 1 : Nat) : Int) := by omega
  have i3 : ((a + n + 1 : Nat) : Int) ≤ (s.size : Int) := by omega
  have e3 : IntKind.i64.wrap (((a + n + 1 : Nat) : Int) + (g : Int)) = ((a + n + 1 + g : Nat) : Int) := by rw [IntWalk.i64_in _ (by omega)]; omega
  have e4 : IntKind.i64.wrap (((a + n + 1 + g : Nat) : Int) + (k : Int)) = ((a + n + 1 + g + k : Nat) : Int) := by rw [IntWalk.i64_in _ (by omega)]; omega
  have HE := Lib.hid hE
  clear hE
  generalize a + n + 1 = c at *
  generalize c + g = p at *
  generalize p + k = q at *
  go_enter Tryd.func10, Tryd.ntmps10
  go_wp2_with fail
  have hB := (Below.refl w.heap.size w).alloc (Nat.le_refl _) (.cells #[.string ⟨#[]⟩, .string ⟨#[]⟩, .string ⟨#[]⟩, .int .i64 0, .int .i64 0] 27)
  have Q := heap_alloc_new w (.cells #[.string ⟨#[]⟩, .string ⟨#[]⟩, .string ⟨#[]⟩, .int .i64 0, .int .i64 0] 27)
  generalize w.alloc (.cells #[.string ⟨#[]⟩, .string ⟨#[]⟩, .string ⟨#[]⟩, .int .i64 0, .int .i64 0] 27) = W at *
  refine (hlc _).mono ?_
  rintro e w1 ⟨rfl, hB1⟩
  replace Q := below_block hB1 (blk_lt Q) Q
  replace hB := hB.trans (hB1.mono hB.size)
  clear hB1
  go_wp2_with fail
  refine (hpr _).mono ?_
  rintro e w2 ⟨rfl, rfl⟩
  go_wp2_with fail
  refine (hgc _).mono ?_
  rintro e w3 ⟨rfl, hB1⟩
  replace Q := below_block hB1 (blk_lt Q) Q
  replace hB := hB.trans (hB1.mono hB.size)
  clear hB1
  go_wp2_with fail
  refine (hdc _ (HE.out.below hB)).mono ?_
  rintro e w4 ⟨rfl, hB1⟩
  replace Q := below_block hB1 (blk_lt Q) Q
  replace hB := hB.trans (hB1.mono hB.size)
  clear hB1
  have y0 := blk_cell Q 0
  have y1 := blk_cell Q 1
  have y2 := blk_cell Q 2
  have y3 := blk_cell Q 3
  have y4 := blk_cell Q 4
  have z0 := blk_free Q 0
  have z1 := blk_free Q 1
  have z2 := blk_free Q 2
  have z3 := blk_free Q 3
  have z4 := blk_free Q 4
  simp at y0 y1 y2 y3 y4
  go_wp2_with fail
  refine bodyPost_ret (v := .tuple #[defV noDef, .int .i64 0]) (by simp [results, Tryd.results10, go_sem, y0, y1, y2, y3, y4, defV, noDef]) rfl ⟨rfl, ?_⟩
  go_grown

set_option maxHeartbeats 4000000 in
set_option maxRecDepth 100000 in
theorem Define_no4 (s : ByteArray) (a n g k : Nat) (w : World) (hE : EnvE w) (hs : s.size ≤ 1000000) (hn : 0 < n) (hb : a + n + 1 + g + k ≤ s.size) (hk : k = 0) (L d : ByteArray) (hlc : ∀ w, Calls Tryd.prog 6 #[.string s, .int .i64 (a : Nat)] w fun e w' => e = .returned (.tuple #[.string L, .int .i64 (n : Nat)]) ∧ Below w.heap.size w w') (hpr : ∀ w, Calls Tryd.prog 14 #[.string (s.extract (a + n) s.size), .string ⟨#[58]⟩] w fun e w' => e = .returned (.bool true) ∧ w' = w) (hgc : ∀ w, Calls Tryd.prog 23 #[.string (s.extract (a + n + 1) s.size)] w fun e w' => e = .returned (.tuple #[.int .i64 (g : Nat), .bool true]) ∧ Below w.heap.size w w') (hdc : ∀ w, EnvE w → Calls Tryd.prog 7 #[.string s, .int .i64 ((a + n + 1 + g : Nat) : Int)] w fun e w' => e = .returned (.tuple #[.string d, .int .i64 (k : Nat)]) ∧ Below w.heap.size w w') :
    Calls Tryd.prog 10 #[.string s, .int .i64 (a : Nat)] w fun e w' =>  e = .returned (.tuple #[defV noDef, .int .i64 0]) ∧ Below w.heap.size w w' := by
  have i0 : (0 : Int) ≤ (a : Int) + (n : Int) := by omega
  have i1 : (a : Int) + (n : Int) ≤ (s.size : Int) := by omega
  have d0 : ((n : Int) == 0) = false := beq_eq_false_iff_ne.2 (by omega)
  have e1 : IntKind.i64.wrap ((a : Int) + (n : Int)) = (a : Int) + (n : Int) := IntWalk.i64_in _ (by omega)
  have e2 : IntKind.i64.wrap ((a : Int) + (n : Int) + 1) = ((a + n + 1 : Nat) : Int) := by rw [IntWalk.i64_in _ (by omega)]; omega
  have i2 : (0 : Int) ≤ ((a + n + 1 : Nat) : Int) := by omega
  have i3 : ((a + n + 1 : Nat) : Int) ≤ (s.size : Int) := by omega
  have e3 : IntKind.i64.wrap (((a + n + 1 : Nat) : Int) + (g : Int)) = ((a + n + 1 + g : Nat) : Int) := by rw [IntWalk.i64_in _ (by omega)]; omega
  have e4 : IntKind.i64.wrap (((a + n + 1 + g : Nat) : Int) + (k : Int)) = ((a + n + 1 + g + k : Nat) : Int) := by rw [IntWalk.i64_in _ (by omega)]; omega
  have HE := Lib.hid hE
  clear hE
  have dk : ((k : Int) == 0) = true := beq_iff_eq.2 (by omega)
  generalize a + n + 1 = c at *
  generalize c + g = p at *
  generalize p + k = q at *
  go_enter Tryd.func10, Tryd.ntmps10
  go_wp2_with fail
  have hB := (Below.refl w.heap.size w).alloc (Nat.le_refl _) (.cells #[.string ⟨#[]⟩, .string ⟨#[]⟩, .string ⟨#[]⟩, .int .i64 0, .int .i64 0] 27)
  have Q := heap_alloc_new w (.cells #[.string ⟨#[]⟩, .string ⟨#[]⟩, .string ⟨#[]⟩, .int .i64 0, .int .i64 0] 27)
  generalize w.alloc (.cells #[.string ⟨#[]⟩, .string ⟨#[]⟩, .string ⟨#[]⟩, .int .i64 0, .int .i64 0] 27) = W at *
  refine (hlc _).mono ?_
  rintro e w1 ⟨rfl, hB1⟩
  replace Q := below_block hB1 (blk_lt Q) Q
  replace hB := hB.trans (hB1.mono hB.size)
  clear hB1
  go_wp2_with fail
  refine (hpr _).mono ?_
  rintro e w2 ⟨rfl, rfl⟩
  go_wp2_with fail
  refine (hgc _).mono ?_
  rintro e w3 ⟨rfl, hB1⟩
  replace Q := below_block hB1 (blk_lt Q) Q
  replace hB := hB.trans (hB1.mono hB.size)
  clear hB1
  go_wp2_with fail
  refine (hdc _ (HE.out.below hB)).mono ?_
  rintro e w4 ⟨rfl, hB1⟩
  replace Q := below_block hB1 (blk_lt Q) Q
  replace hB := hB.trans (hB1.mono hB.size)
  clear hB1
  have y0 := blk_cell Q 0
  have y1 := blk_cell Q 1
  have y2 := blk_cell Q 2
  have y3 := blk_cell Q 3
  have y4 := blk_cell Q 4
  have z0 := blk_free Q 0
  have z1 := blk_free Q 1
  have z2 := blk_free Q 2
  have z3 := blk_free Q 3
  have z4 := blk_free Q 4
  simp at y0 y1 y2 y3 y4
  go_wp2_with fail
  refine bodyPost_ret (v := .tuple #[defV noDef, .int .i64 0]) (by simp [results, Tryd.results10, go_sem, y0, y1, y2, y3, y4, defV, noDef]) rfl ⟨rfl, ?_⟩
  go_grown

set_option maxHeartbeats 4000000 in
set_option maxRecDepth 100000 in
theorem Define_tit (s : ByteArray) (a n g k : Nat) (w : World) (hE : EnvE w) (hs : s.size ≤ 1000000) (hn : 0 < n) (hb : a + n + 1 + g + k ≤ s.size) (hk : 0 < k) (L d F T : ByteArray) (U V : Int) (hV : 0 ≤ V ∧ V ≤ 1000000) (hlc : ∀ w, Calls Tryd.prog 6 #[.string s, .int .i64 (a : Nat)] w fun e w' => e = .returned (.tuple #[.string L, .int .i64 (n : Nat)]) ∧ Below w.heap.size w w') (hpr : ∀ w, Calls Tryd.prog 14 #[.string (s.extract (a + n) s.size), .string ⟨#[58]⟩] w fun e w' => e = .returned (.bool true) ∧ w' = w) (hgc : ∀ w, Calls Tryd.prog 23 #[.string (s.extract (a + n + 1) s.size)] w fun e w' => e = .returned (.tuple #[.int .i64 (g : Nat), .bool true]) ∧ Below w.heap.size w w') (hdc : ∀ w, EnvE w → Calls Tryd.prog 7 #[.string s, .int .i64 ((a + n + 1 + g : Nat) : Int)] w fun e w' => e = .returned (.tuple #[.string d, .int .i64 (k : Nat)]) ∧ Below w.heap.size w w') (hfc : ∀ w, EnvE w → Calls Tryd.prog 11 #[.string L] w fun e w' => e = .returned (.string F) ∧ Below w.heap.size w w') (htc : ∀ w, EnvE w → Calls Tryd.prog 24 #[.string s, .int .i64 ((a + n + 1 + g + k : Nat) : Int)] w fun e w' => e = .returned (.tuple #[.string T, .int .i64 U, .int .i64 V, .bool true]) ∧ Below w.heap.size w w') :
    Calls Tryd.prog 10 #[.string s, .int .i64 (a : Nat)] w fun e w' =>  e = .returned (.tuple #[.agg #[.string F, .string d, .string T, .int .i64 (a : Nat), .int .i64 U], .int .i64 (V - a)]) ∧ Below w.heap.size w w' := by
  have i0 : (0 : Int) ≤ (a : Int) + (n : Int) := by omega
  have i1 : (a : Int) + (n : Int) ≤ (s.size : Int) := by omega
  have d0 : ((n : Int) == 0) = false := beq_eq_false_iff_ne.2 (by omega)
  have e1 : IntKind.i64.wrap ((a : Int) + (n : Int)) = (a : Int) + (n : Int) := IntWalk.i64_in _ (by omega)
  have e2 : IntKind.i64.wrap ((a : Int) + (n : Int) + 1) = ((a + n + 1 : Nat) : Int) := by rw [IntWalk.i64_in _ (by omega)]; omega
  have i2 : (0 : Int) ≤ ((a + n + 1 : Nat) : Int) := by omega
  have i3 : ((a + n + 1 : Nat) : Int) ≤ (s.size : Int) := by omega
  have e3 : IntKind.i64.wrap (((a + n + 1 : Nat) : Int) + (g : Int)) = ((a + n + 1 + g : Nat) : Int) := by rw [IntWalk.i64_in _ (by omega)]; omega
  have e4 : IntKind.i64.wrap (((a + n + 1 + g : Nat) : Int) + (k : Int)) = ((a + n + 1 + g + k : Nat) : Int) := by rw [IntWalk.i64_in _ (by omega)]; omega
  have HE := Lib.hid hE
  clear hE
  have dk : ((k : Int) == 0) = false := beq_eq_false_iff_ne.2 (by omega)
  have e5 : IntKind.i64.wrap (V - (a : Int)) = V - (a : Int) := IntWalk.i64_in _ (by omega)
  generalize a + n + 1 = c at *
  generalize c + g = p at *
  generalize p + k = q at *
  go_enter Tryd.func10, Tryd.ntmps10
  go_wp2_with fail
  have hB := (Below.refl w.heap.size w).alloc (Nat.le_refl _) (.cells #[.string ⟨#[]⟩, .string ⟨#[]⟩, .string ⟨#[]⟩, .int .i64 0, .int .i64 0] 27)
  have Q := heap_alloc_new w (.cells #[.string ⟨#[]⟩, .string ⟨#[]⟩, .string ⟨#[]⟩, .int .i64 0, .int .i64 0] 27)
  generalize w.alloc (.cells #[.string ⟨#[]⟩, .string ⟨#[]⟩, .string ⟨#[]⟩, .int .i64 0, .int .i64 0] 27) = W at *
  refine (hlc _).mono ?_
  rintro e w1 ⟨rfl, hB1⟩
  replace Q := below_block hB1 (blk_lt Q) Q
  replace hB := hB.trans (hB1.mono hB.size)
  clear hB1
  go_wp2_with fail
  refine (hpr _).mono ?_
  rintro e w2 ⟨rfl, rfl⟩
  go_wp2_with fail
  refine (hgc _).mono ?_
  rintro e w3 ⟨rfl, hB1⟩
  replace Q := below_block hB1 (blk_lt Q) Q
  replace hB := hB.trans (hB1.mono hB.size)
  clear hB1
  go_wp2_with fail
  refine (hdc _ (HE.out.below hB)).mono ?_
  rintro e w4 ⟨rfl, hB1⟩
  replace Q := below_block hB1 (blk_lt Q) Q
  replace hB := hB.trans (hB1.mono hB.size)
  clear hB1
  go_wp2_with fail
  refine (hfc _ (HE.out.below hB)).mono ?_
  rintro e w5 ⟨rfl, hB1⟩
  replace Q := below_block hB1 (blk_lt Q) Q
  replace hB := hB.trans (hB1.mono hB.size)
  clear hB1
  go_wp2_with fail
  have K := heap_alloc_new w5 (.cells #[.string F, .string d, .string ⟨#[]⟩, .int .i64 (a : Nat), .int .i64 (q : Nat)] 27)
  have hz5 := hB.size
  have hQz := blk_lt Q
  have hB1 := (Below.refl w5.heap.size w5).alloc (Nat.le_refl _) (.cells #[.string F, .string d, .string ⟨#[]⟩, .int .i64 (a : Nat), .int .i64 (q : Nat)] 27)
  replace Q := below_block hB1 hQz Q
  replace hB := hB.trans (hB1.mono hz5)
  have hne : w5.heap.size ≠ w.heap.size := by omega
  clear hB1
  generalize w5.alloc (.cells #[.string F, .string d, .string ⟨#[]⟩, .int .i64 (a : Nat), .int .i64 (q : Nat)] 27) = W5 at *
  generalize w5.heap.size = b at *

  refine (htc _ (HE.out.below hB)).mono ?_
  rintro e w6 ⟨rfl, hB1⟩
  replace Q := below_block hB1 (blk_lt Q) Q
  replace K := below_block hB1 (blk_lt K) K
  replace hB := hB.trans (hB1.mono hB.size)
  clear hB1
  have y0 := blk_cell Q 0
  have y1 := blk_cell Q 1
  have y2 := blk_cell Q 2
  have y3 := blk_cell Q 3
  have y4 := blk_cell Q 4
  have z0 := blk_free Q 0
  have z1 := blk_free Q 1
  have z2 := blk_free Q 2
  have z3 := blk_free Q 3
  have z4 := blk_free Q 4
  simp at y0 y1 y2 y3 y4
  have k0 := blk_cell K 0
  have k1 := blk_cell K 1
  have k2 := blk_cell K 2
  have k3 := blk_cell K 3
  have k4 := blk_cell K 4
  have m0 := blk_free K 0
  have m1 := blk_free K 1
  have m2 := blk_free K 2
  have m3 := blk_free K 3
  have m4 := blk_free K 4
  simp at k0 k1 k2 k3 k4
  have hne2 := hne.symm
  go_wp2_with fail
  refine bodyPost_ret (v := .tuple #[.agg #[.string F, .string d, .string T, .int .i64 (a : Nat), .int .i64 U], .int .i64 (V - a)]) (by simp [results, Tryd.results10, go_sem, y0, y1, y2, y3, y4, k0, k1, k2, k3, k4, hne, hne2]) rfl ⟨rfl, ?_⟩
  go_grown

set_option maxHeartbeats 4000000 in
set_option maxRecDepth 100000 in
theorem Define_bad (s : ByteArray) (a n g k : Nat) (w : World) (hE : EnvE w) (hs : s.size ≤ 1000000) (hn : 0 < n) (hb : a + n + 1 + g + k ≤ s.size) (hk : 0 < k) (L d F T : ByteArray) (U V R : Int) (hlc : ∀ w, Calls Tryd.prog 6 #[.string s, .int .i64 (a : Nat)] w fun e w' => e = .returned (.tuple #[.string L, .int .i64 (n : Nat)]) ∧ Below w.heap.size w w') (hpr : ∀ w, Calls Tryd.prog 14 #[.string (s.extract (a + n) s.size), .string ⟨#[58]⟩] w fun e w' => e = .returned (.bool true) ∧ w' = w) (hgc : ∀ w, Calls Tryd.prog 23 #[.string (s.extract (a + n + 1) s.size)] w fun e w' => e = .returned (.tuple #[.int .i64 (g : Nat), .bool true]) ∧ Below w.heap.size w w') (hdc : ∀ w, EnvE w → Calls Tryd.prog 7 #[.string s, .int .i64 ((a + n + 1 + g : Nat) : Int)] w fun e w' => e = .returned (.tuple #[.string d, .int .i64 (k : Nat)]) ∧ Below w.heap.size w w') (hfc : ∀ w, EnvE w → Calls Tryd.prog 11 #[.string L] w fun e w' => e = .returned (.string F) ∧ Below w.heap.size w w') (htc : ∀ w, EnvE w → Calls Tryd.prog 24 #[.string s, .int .i64 ((a + n + 1 + g + k : Nat) : Int)] w fun e w' => e = .returned (.tuple #[.string T, .int .i64 U, .int .i64 V, .bool false]) ∧ Below w.heap.size w w') (hrc : ∀ w, Calls Tryd.prog 25 #[.string (s.extract (a + n + 1 + g + k) s.size)] w fun e w' => e = .returned (.tuple #[.int .i64 R, .bool false]) ∧ Below w.heap.size w w') :
    Calls Tryd.prog 10 #[.string s, .int .i64 (a : Nat)] w fun e w' =>  e = .returned (.tuple #[defV noDef, .int .i64 0]) ∧ Below w.heap.size w w' := by
  have i0 : (0 : Int) ≤ (a : Int) + (n : Int) := by omega
  have i1 : (a : Int) + (n : Int) ≤ (s.size : Int) := by omega
  have d0 : ((n : Int) == 0) = false := beq_eq_false_iff_ne.2 (by omega)
  have e1 : IntKind.i64.wrap ((a : Int) + (n : Int)) = (a : Int) + (n : Int) := IntWalk.i64_in _ (by omega)
  have e2 : IntKind.i64.wrap ((a : Int) + (n : Int) + 1) = ((a + n + 1 : Nat) : Int) := by rw [IntWalk.i64_in _ (by omega)]; omega
  have i2 : (0 : Int) ≤ ((a + n + 1 : Nat) : Int) := by omega
  have i3 : ((a + n + 1 : Nat) : Int) ≤ (s.size : Int) := by omega
  have e3 : IntKind.i64.wrap (((a + n + 1 : Nat) : Int) + (g : Int)) = ((a + n + 1 + g : Nat) : Int) := by rw [IntWalk.i64_in _ (by omega)]; omega
  have e4 : IntKind.i64.wrap (((a + n + 1 + g : Nat) : Int) + (k : Int)) = ((a + n + 1 + g + k : Nat) : Int) := by rw [IntWalk.i64_in _ (by omega)]; omega
  have HE := Lib.hid hE
  clear hE
  have dk : ((k : Int) == 0) = false := beq_eq_false_iff_ne.2 (by omega)
  have i6 : (0 : Int) ≤ ((a + n + 1 + g + k : Nat) : Int) := by omega
  have i7 : ((a + n + 1 + g + k : Nat) : Int) ≤ (s.size : Int) := by omega
  generalize a + n + 1 = c at *
  generalize c + g = p at *
  generalize p + k = q at *
  go_enter Tryd.func10, Tryd.ntmps10
  go_wp2_with fail
  have hB := (Below.refl w.heap.size w).alloc (Nat.le_refl _) (.cells #[.string ⟨#[]⟩, .string ⟨#[]⟩, .string ⟨#[]⟩, .int .i64 0, .int .i64 0] 27)
  have Q := heap_alloc_new w (.cells #[.string ⟨#[]⟩, .string ⟨#[]⟩, .string ⟨#[]⟩, .int .i64 0, .int .i64 0] 27)
  generalize w.alloc (.cells #[.string ⟨#[]⟩, .string ⟨#[]⟩, .string ⟨#[]⟩, .int .i64 0, .int .i64 0] 27) = W at *
  refine (hlc _).mono ?_
  rintro e w1 ⟨rfl, hB1⟩
  replace Q := below_block hB1 (blk_lt Q) Q
  replace hB := hB.trans (hB1.mono hB.size)
  clear hB1
  go_wp2_with fail
  refine (hpr _).mono ?_
  rintro e w2 ⟨rfl, rfl⟩
  go_wp2_with fail
  refine (hgc _).mono ?_
  rintro e w3 ⟨rfl, hB1⟩
  replace Q := below_block hB1 (blk_lt Q) Q
  replace hB := hB.trans (hB1.mono hB.size)
  clear hB1
  go_wp2_with fail
  refine (hdc _ (HE.out.below hB)).mono ?_
  rintro e w4 ⟨rfl, hB1⟩
  replace Q := below_block hB1 (blk_lt Q) Q
  replace hB := hB.trans (hB1.mono hB.size)
  clear hB1
  go_wp2_with fail
  refine (hfc _ (HE.out.below hB)).mono ?_
  rintro e w5 ⟨rfl, hB1⟩
  replace Q := below_block hB1 (blk_lt Q) Q
  replace hB := hB.trans (hB1.mono hB.size)
  clear hB1
  go_wp2_with fail
  have K := heap_alloc_new w5 (.cells #[.string F, .string d, .string ⟨#[]⟩, .int .i64 (a : Nat), .int .i64 (q : Nat)] 27)
  have hz5 := hB.size
  have hQz := blk_lt Q
  have hB1 := (Below.refl w5.heap.size w5).alloc (Nat.le_refl _) (.cells #[.string F, .string d, .string ⟨#[]⟩, .int .i64 (a : Nat), .int .i64 (q : Nat)] 27)
  replace Q := below_block hB1 hQz Q
  replace hB := hB.trans (hB1.mono hz5)
  have hne : w5.heap.size ≠ w.heap.size := by omega
  clear hB1
  generalize w5.alloc (.cells #[.string F, .string d, .string ⟨#[]⟩, .int .i64 (a : Nat), .int .i64 (q : Nat)] 27) = W5 at *
  generalize w5.heap.size = b at *

  refine (htc _ (HE.out.below hB)).mono ?_
  rintro e w6 ⟨rfl, hB1⟩
  replace Q := below_block hB1 (blk_lt Q) Q
  replace K := below_block hB1 (blk_lt K) K
  replace hB := hB.trans (hB1.mono hB.size)
  clear hB1
  go_wp2_with fail
  refine (hrc _).mono ?_
  rintro e w7 ⟨rfl, hB1⟩
  replace Q := below_block hB1 (blk_lt Q) Q
  replace K := below_block hB1 (blk_lt K) K
  replace hB := hB.trans (hB1.mono hB.size)
  clear hB1
  have y0 := blk_cell Q 0
  have y1 := blk_cell Q 1
  have y2 := blk_cell Q 2
  have y3 := blk_cell Q 3
  have y4 := blk_cell Q 4
  have z0 := blk_free Q 0
  have z1 := blk_free Q 1
  have z2 := blk_free Q 2
  have z3 := blk_free Q 3
  have z4 := blk_free Q 4
  simp at y0 y1 y2 y3 y4
  have k0 := blk_cell K 0
  have k1 := blk_cell K 1
  have k2 := blk_cell K 2
  have k3 := blk_cell K 3
  have k4 := blk_cell K 4
  have m0 := blk_free K 0
  have m1 := blk_free K 1
  have m2 := blk_free K 2
  have m3 := blk_free K 3
  have m4 := blk_free K 4
  simp at k0 k1 k2 k3 k4
  have hne2 := hne.symm
  go_wp2_with fail
  refine bodyPost_ret (v := .tuple #[defV noDef, .int .i64 0]) (by simp [results, Tryd.results10, go_sem, defV, noDef, y0, y1, y2, y3, y4, k0, k1, k2, k3, k4, hne, hne2]) rfl ⟨rfl, ?_⟩
  go_grown

set_option maxHeartbeats 4000000 in
set_option maxRecDepth 100000 in
theorem Define_rest (s : ByteArray) (a n g k : Nat) (w : World) (hE : EnvE w) (hs : s.size ≤ 1000000) (hn : 0 < n) (hb : a + n + 1 + g + k ≤ s.size) (hk : 0 < k) (L d F T : ByteArray) (U V R : Int) (hR : 0 ≤ R ∧ R ≤ 1000000) (hlc : ∀ w, Calls Tryd.prog 6 #[.string s, .int .i64 (a : Nat)] w fun e w' => e = .returned (.tuple #[.string L, .int .i64 (n : Nat)]) ∧ Below w.heap.size w w') (hpr : ∀ w, Calls Tryd.prog 14 #[.string (s.extract (a + n) s.size), .string ⟨#[58]⟩] w fun e w' => e = .returned (.bool true) ∧ w' = w) (hgc : ∀ w, Calls Tryd.prog 23 #[.string (s.extract (a + n + 1) s.size)] w fun e w' => e = .returned (.tuple #[.int .i64 (g : Nat), .bool true]) ∧ Below w.heap.size w w') (hdc : ∀ w, EnvE w → Calls Tryd.prog 7 #[.string s, .int .i64 ((a + n + 1 + g : Nat) : Int)] w fun e w' => e = .returned (.tuple #[.string d, .int .i64 (k : Nat)]) ∧ Below w.heap.size w w') (hfc : ∀ w, EnvE w → Calls Tryd.prog 11 #[.string L] w fun e w' => e = .returned (.string F) ∧ Below w.heap.size w w') (htc : ∀ w, EnvE w → Calls Tryd.prog 24 #[.string s, .int .i64 ((a + n + 1 + g + k : Nat) : Int)] w fun e w' => e = .returned (.tuple #[.string T, .int .i64 U, .int .i64 V, .bool false]) ∧ Below w.heap.size w w') (hrc : ∀ w, Calls Tryd.prog 25 #[.string (s.extract (a + n + 1 + g + k) s.size)] w fun e w' => e = .returned (.tuple #[.int .i64 R, .bool true]) ∧ Below w.heap.size w w') :
    Calls Tryd.prog 10 #[.string s, .int .i64 (a : Nat)] w fun e w' =>  e = .returned (.tuple #[.agg #[.string F, .string d, .string ⟨#[]⟩, .int .i64 (a : Nat), .int .i64 ((a + n + 1 + g + k : Nat) : Int)], .int .i64 (((a + n + 1 + g + k : Nat) : Int) + R - a)]) ∧ Below w.heap.size w w' := by
  have i0 : (0 : Int) ≤ (a : Int) + (n : Int) := by omega
  have i1 : (a : Int) + (n : Int) ≤ (s.size : Int) := by omega
  have d0 : ((n : Int) == 0) = false := beq_eq_false_iff_ne.2 (by omega)
  have e1 : IntKind.i64.wrap ((a : Int) + (n : Int)) = (a : Int) + (n : Int) := IntWalk.i64_in _ (by omega)
  have e2 : IntKind.i64.wrap ((a : Int) + (n : Int) + 1) = ((a + n + 1 : Nat) : Int) := by rw [IntWalk.i64_in _ (by omega)]; omega
  have i2 : (0 : Int) ≤ ((a + n + 1 : Nat) : Int) := by omega
  have i3 : ((a + n + 1 : Nat) : Int) ≤ (s.size : Int) := by omega
  have e3 : IntKind.i64.wrap (((a + n + 1 : Nat) : Int) + (g : Int)) = ((a + n + 1 + g : Nat) : Int) := by rw [IntWalk.i64_in _ (by omega)]; omega
  have e4 : IntKind.i64.wrap (((a + n + 1 + g : Nat) : Int) + (k : Int)) = ((a + n + 1 + g + k : Nat) : Int) := by rw [IntWalk.i64_in _ (by omega)]; omega
  have HE := Lib.hid hE
  clear hE
  have dk : ((k : Int) == 0) = false := beq_eq_false_iff_ne.2 (by omega)
  have e5 : IntKind.i64.wrap (((a + n + 1 + g + k : Nat) : Int) + R) = ((a + n + 1 + g + k : Nat) : Int) + R := IntWalk.i64_in _ (by omega)
  have e6 : IntKind.i64.wrap (((a + n + 1 + g + k : Nat) : Int) + R - (a : Int)) = ((a + n + 1 + g + k : Nat) : Int) + R - (a : Int) := IntWalk.i64_in _ (by omega)
  have i6 : (0 : Int) ≤ ((a + n + 1 + g + k : Nat) : Int) := by omega
  have i7 : ((a + n + 1 + g + k : Nat) : Int) ≤ (s.size : Int) := by omega
  generalize a + n + 1 = c at *
  generalize c + g = p at *
  generalize p + k = q at *
  go_enter Tryd.func10, Tryd.ntmps10
  go_wp2_with fail
  have hB := (Below.refl w.heap.size w).alloc (Nat.le_refl _) (.cells #[.string ⟨#[]⟩, .string ⟨#[]⟩, .string ⟨#[]⟩, .int .i64 0, .int .i64 0] 27)
  have Q := heap_alloc_new w (.cells #[.string ⟨#[]⟩, .string ⟨#[]⟩, .string ⟨#[]⟩, .int .i64 0, .int .i64 0] 27)
  generalize w.alloc (.cells #[.string ⟨#[]⟩, .string ⟨#[]⟩, .string ⟨#[]⟩, .int .i64 0, .int .i64 0] 27) = W at *
  refine (hlc _).mono ?_
  rintro e w1 ⟨rfl, hB1⟩
  replace Q := below_block hB1 (blk_lt Q) Q
  replace hB := hB.trans (hB1.mono hB.size)
  clear hB1
  go_wp2_with fail
  refine (hpr _).mono ?_
  rintro e w2 ⟨rfl, rfl⟩
  go_wp2_with fail
  refine (hgc _).mono ?_
  rintro e w3 ⟨rfl, hB1⟩
  replace Q := below_block hB1 (blk_lt Q) Q
  replace hB := hB.trans (hB1.mono hB.size)
  clear hB1
  go_wp2_with fail
  refine (hdc _ (HE.out.below hB)).mono ?_
  rintro e w4 ⟨rfl, hB1⟩
  replace Q := below_block hB1 (blk_lt Q) Q
  replace hB := hB.trans (hB1.mono hB.size)
  clear hB1
  go_wp2_with fail
  refine (hfc _ (HE.out.below hB)).mono ?_
  rintro e w5 ⟨rfl, hB1⟩
  replace Q := below_block hB1 (blk_lt Q) Q
  replace hB := hB.trans (hB1.mono hB.size)
  clear hB1
  go_wp2_with fail
  have K := heap_alloc_new w5 (.cells #[.string F, .string d, .string ⟨#[]⟩, .int .i64 (a : Nat), .int .i64 (q : Nat)] 27)
  have hz5 := hB.size
  have hQz := blk_lt Q
  have hB1 := (Below.refl w5.heap.size w5).alloc (Nat.le_refl _) (.cells #[.string F, .string d, .string ⟨#[]⟩, .int .i64 (a : Nat), .int .i64 (q : Nat)] 27)
  replace Q := below_block hB1 hQz Q
  replace hB := hB.trans (hB1.mono hz5)
  have hne : w5.heap.size ≠ w.heap.size := by omega
  clear hB1
  generalize w5.alloc (.cells #[.string F, .string d, .string ⟨#[]⟩, .int .i64 (a : Nat), .int .i64 (q : Nat)] 27) = W5 at *
  generalize w5.heap.size = b at *

  refine (htc _ (HE.out.below hB)).mono ?_
  rintro e w6 ⟨rfl, hB1⟩
  replace Q := below_block hB1 (blk_lt Q) Q
  replace K := below_block hB1 (blk_lt K) K
  replace hB := hB.trans (hB1.mono hB.size)
  clear hB1
  go_wp2_with fail
  refine (hrc _).mono ?_
  rintro e w7 ⟨rfl, hB1⟩
  replace Q := below_block hB1 (blk_lt Q) Q
  replace K := below_block hB1 (blk_lt K) K
  replace hB := hB.trans (hB1.mono hB.size)
  clear hB1
  have y0 := blk_cell Q 0
  have y1 := blk_cell Q 1
  have y2 := blk_cell Q 2
  have y3 := blk_cell Q 3
  have y4 := blk_cell Q 4
  have z0 := blk_free Q 0
  have z1 := blk_free Q 1
  have z2 := blk_free Q 2
  have z3 := blk_free Q 3
  have z4 := blk_free Q 4
  simp at y0 y1 y2 y3 y4
  have k0 := blk_cell K 0
  have k1 := blk_cell K 1
  have k2 := blk_cell K 2
  have k3 := blk_cell K 3
  have k4 := blk_cell K 4
  have m0 := blk_free K 0
  have m1 := blk_free K 1
  have m2 := blk_free K 2
  have m3 := blk_free K 3
  have m4 := blk_free K 4
  simp at k0 k1 k2 k3 k4
  have hne2 := hne.symm
  go_wp2_with fail
  refine bodyPost_ret (v := .tuple #[.agg #[.string F, .string d, .string ⟨#[]⟩, .int .i64 (a : Nat), .int .i64 (q : Nat)], .int .i64 ((q : Nat) + R - a)]) (by simp [results, Tryd.results10, go_sem, y0, y1, y2, y3, y4, k0, k1, k2, k3, k4, hne, hne2]) rfl ⟨rfl, ?_⟩
  go_grown

end Go.Proofs.YtcpbljhogenjoaaDoor
