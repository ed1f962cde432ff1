/- Walks: tag's upTo, declares, Raw. -/
import Derived.Test.YtjaidphlphncjaaDoorTagRec
namespace Go.Proofs.YtjaidphlphncjaaDoor
set_option linter.unusedVariables false
set_option linter.unusedSimpArgs false
open Go Go.RowKit Go.Lib

/-- behind the first end that stands at or behind a place; 0: there is none -/
def upToF (s : ByteArray) (n : Nat) (p : List UInt8) : Nat :=
  if Lib.index (s.data.toList.drop n) p < 0 then 0 else n + (Lib.index (s.data.toList.drop n) p).toNat + p.length
def declF (s : ByteArray) : Bool := decide (2 < s.size) && (Lib.hasPrefix s.data.toList [60, 33] && letterU (byteU s 2))
def rawF (s : ByteArray) : Nat :=
  if Lib.hasPrefix s.data.toList [60, 33, 45, 45, 62] = true then 5
  else if Lib.hasPrefix s.data.toList [60, 33, 45, 45, 45, 62] = true then 6
  else if Lib.hasPrefix s.data.toList [60, 33, 45, 45] = true then upToF s 4 [45, 45, 62]
  else if Lib.hasPrefix s.data.toList [60, 63] = true then upToF s 2 [63, 62]
  else if Lib.hasPrefix s.data.toList [60, 33, 91, 67, 68, 65, 84, 65, 91] = true then upToF s 9 [93, 93, 62]
  else if declF s = true then upToF s 3 [62]
  else openN s

theorem index_bd (l p : List UInt8) (h : ¬ Lib.index l p < 0) : (Lib.index l p).toNat + p.length ≤ l.length := by
  have := Lib.index_ge l p
  obtain ⟨i, hi⟩ := Int.eq_ofNat_of_zero_le (by omega : 0 ≤ Lib.index l p)
  have hc := Lib.indexB_cases ⟨l.toArray⟩ ⟨p.toArray⟩
  have e : Lib.indexB ⟨l.toArray⟩ ⟨p.toArray⟩ = Lib.index l p := rfl
  rw [e, hi] at hc
  rcases hc with hc | ⟨j, hj, hle⟩
  · omega
  · have h1 : (⟨p.toArray⟩ : ByteArray).size = p.length := by rw [Lib.size_eq]
    have h2 : (⟨l.toArray⟩ : ByteArray).size = l.length := by rw [Lib.size_eq]
    rw [h1, h2] at hle
    rw [hi, Int.toNat_natCast]
    omega

theorem upTo_calls (s bg p : ByteArray) (w : World) (hM : MaxL w) (hs : s.size ≤ 1000000) (hb : bg.size ≤ s.size) (hp : p.size ≤ 1000) :
    Calls Tryd.prog 18 #[.string s, .string bg, .string p] w fun e w' => e = .returned (.int .i64 (upToF s bg.size p.data.toList : Nat)) ∧ w' = w := by
  obtain ⟨m, hm⟩ := hM
  have hd := tail_data s bg.size
  have hix := Tryd.strings_Index (s.extract bg.size s.size) p m w (by rw [Lib.tail_size]; omega) hm
  rw [hd] at hix
  have hbd := index_bd (s.data.toList.drop bg.size) p.data.toList
  rw [List.length_drop, lst_size, lst_size] at hbd
  have hge := Lib.index_ge (s.data.toList.drop bg.size) p.data.toList
  have hr : Hid (upToF s bg.size p.data.toList = if Lib.index (s.data.toList.drop bg.size) p.data.toList < 0 then 0 else bg.size + (Lib.index (s.data.toList.drop bg.size) p.data.toList).toNat + p.size) := by
    show _ = _
    unfold upToF; rw [lst_size]
  generalize Lib.index (s.data.toList.drop bg.size) p.data.toList = i at *
  clear hd hm
  go_enter Tryd.func18, Tryd.ntmps18
  go_wp2_with fail
  refine hix.mono ?_
  rintro e w1 ⟨rfl, rfl⟩
  clear hix
  by_cases hi : i < 0
  · have d1 : decide (i < 0) = true := decide_eq_true hi
    go_wp2_with fail
    go_ret
    exact ⟨ret_int (by rw [hr.out, if_pos hi]; rfl), rfl⟩
  · have hbd' := hbd (by first | exact hi | omega)
    have d1 : decide (i < 0) = false := decide_eq_false (by omega)
    have e1 := IntWalk.i64_in ((bg.size : Int) + i) (by omega)
    have e2 := IntWalk.i64_in ((bg.size : Int) + i + (p.size : Int)) (by omega)
    go_wp2_with fail
    go_ret
    exact ⟨ret_int (by rw [hr.out, if_neg (by omega)]; omega), rfl⟩

theorem declares_calls (s : ByteArray) (w : World) (hs : s.size ≤ 1000000) :
    Calls Tryd.prog 19 #[.string s] w fun e w' => e = .returned (.bool (declF s)) ∧ w' = w := by
  by_cases h2 : 2 < s.size
  · have d1 : decide ((2 : Int) < (s.size : Int)) = true := decide_eq_true (by omega)
    have i1 : (2 : Int) < (s.size : Int) := by omega
    have hr : Hid (declF s = (Lib.hasPrefix s.data.toList [60, 33] && letterU (byteU s 2))) := by
      show _ = _
      unfold declF; rw [decide_eq_true h2]; rfl
    have hbu := byteU_in s 2 h2
    have hi := idx_in lettersT.data.toList s[2]
    rw [letters_contains, ← hbu] at hi
    have HBU := Lib.hid hbu
    rw [hbu] at hi
    clear hbu
    unfold lettersT at hi
    go_enter Tryd.func19, Tryd.ntmps19
    go_wp2_with fail
    refine (Tryd.strings_HasPrefix s ⟨#[60, 33]⟩ _).mono ?_
    rintro e w1 ⟨rfl, rfl⟩
    rw [show (ByteArray.mk #[60, 33]).data.toList = [60, 33] from rfl]
    cases hp : Lib.hasPrefix s.data.toList [60, 33] with
    | false =>
      go_wp2_with fail
      go_ret
      exact ⟨ret_bool (by rw [hr.out, hp]; rfl), rfl⟩
    | true =>
      go_wp2_with fail
      refine (Tryd.strings_IndexByte _ _ _).mono ?_
      rintro e w2 ⟨rfl, rfl⟩
      generalize Lib.indexByte _ ((s[2].toNat : Int).toNat.toUInt8) = i at *
      go_wp2_with fail
      go_ret
      exact ⟨ret_bool (by rw [hr.out, hp, HBU.out, ← hi]; rfl), rfl⟩
  · have d1 : decide ((2 : Int) < (s.size : Int)) = false := decide_eq_false (by omega)
    have hr : Hid (declF s = false) := by
      show _ = _
      unfold declF; rw [decide_eq_false h2]; rfl
    go_enter Tryd.func19, Tryd.ntmps19
    go_wp2_with fail
    go_ret
    exact ⟨ret_bool hr.out.symm, rfl⟩

theorem pre_le (s : ByteArray) (p : List UInt8) (h : Lib.hasPrefix s.data.toList p = true) : p.length ≤ s.size := by
  unfold Lib.hasPrefix at h
  have := (List.isPrefixOf_iff_prefix.1 h).length_le
  rw [lst_size] at this; exact this

set_option maxHeartbeats 4000000 in
set_option maxRecDepth 100000 in
theorem Raw_0 (s : ByteArray) (w : World) (hM : MaxL w) (hs : s.size ≤ 1000000) (hw : 0 < w.heap.size) (h0 : Lib.hasPrefix s.data.toList [60, 33, 45, 45, 62] = true) :
    Calls Tryd.prog 9 #[.string s] w fun e w' => e = .returned (.int .i64 5) ∧ Below w.heap.size w w' := by
  have HM := Lib.hid hM
  clear hM
  go_enter Tryd.func9, Tryd.ntmps9
  go_wp2_with fail
  refine wp_loop_rounds 4 ?_
  rw [rounds_succ]
  go_wp2_with fail
  have B0 := (Below.refl w.heap.size w).alloc (Nat.le_refl _) (Obj.cells #[Value.string ⟨#[60, 33, 45, 45, 62]⟩, Value.string ⟨#[60, 33, 45, 45, 45, 62]⟩] 9)
  have K := heap_alloc_new w (Obj.cells #[Value.string ⟨#[60, 33, 45, 45, 62]⟩, Value.string ⟨#[60, 33, 45, 45, 45, 62]⟩] 9)
  generalize w.alloc (Obj.cells #[Value.string ⟨#[60, 33, 45, 45, 62]⟩, Value.string ⟨#[60, 33, 45, 45, 45, 62]⟩] 9) = w2 at *
  have k1 := blk_cell K 1
  have kz := blk_lt K
  simp at k1
  clear K
  refine (Tryd.strings_HasPrefix s ⟨#[60, 33, 45, 45, 62]⟩ _).mono ?_
  rintro e x0 ⟨rfl, rfl⟩
  rw [show (ByteArray.mk #[60, 33, 45, 45, 62]).data.toList = [60, 33, 45, 45, 62] from rfl, h0]
  go_wp2_with fail
  go_ret
  exact ⟨rfl, B0⟩

set_option maxHeartbeats 4000000 in
set_option maxRecDepth 100000 in
theorem Raw_1 (s : ByteArray) (w : World) (hM : MaxL w) (hs : s.size ≤ 1000000) (hw : 0 < w.heap.size) (h0 : Lib.hasPrefix s.data.toList [60, 33, 45, 45, 62] = false) (h1 : Lib.hasPrefix s.data.toList [60, 33, 45, 45, 45, 62] = true) :
    Calls Tryd.prog 9 #[.string s] w fun e w' => e = .returned (.int .i64 6) ∧ Below w.heap.size w w' := by
  have HM := Lib.hid hM
  clear hM
  go_enter Tryd.func9, Tryd.ntmps9
  go_wp2_with fail
  refine wp_loop_rounds 4 ?_
  rw [rounds_succ]
  go_wp2_with fail
  have B0 := (Below.refl w.heap.size w).alloc (Nat.le_refl _) (Obj.cells #[Value.string ⟨#[60, 33, 45, 45, 62]⟩, Value.string ⟨#[60, 33, 45, 45, 45, 62]⟩] 9)
  have K := heap_alloc_new w (Obj.cells #[Value.string ⟨#[60, 33, 45, 45, 62]⟩, Value.string ⟨#[60, 33, 45, 45, 45, 62]⟩] 9)
  generalize w.alloc (Obj.cells #[Value.string ⟨#[60, 33, 45, 45, 62]⟩, Value.string ⟨#[60, 33, 45, 45, 45, 62]⟩] 9) = w2 at *
  have k1 := blk_cell K 1
  have kz := blk_lt K
  simp at k1
  clear K
  refine (Tryd.strings_HasPrefix s ⟨#[60, 33, 45, 45, 62]⟩ _).mono ?_
  rintro e x0 ⟨rfl, rfl⟩
  rw [show (ByteArray.mk #[60, 33, 45, 45, 62]).data.toList = [60, 33, 45, 45, 62] from rfl, h0]
  go_wp2_with fail
  rw [rounds_succ]
  go_wp2_with fail
  refine (Tryd.strings_HasPrefix s ⟨#[60, 33, 45, 45, 45, 62]⟩ _).mono ?_
  rintro e x1 ⟨rfl, rfl⟩
  rw [show (ByteArray.mk #[60, 33, 45, 45, 45, 62]).data.toList = [60, 33, 45, 45, 45, 62] from rfl, h1]
  go_wp2_with fail
  go_ret
  exact ⟨rfl, B0⟩

set_option maxHeartbeats 4000000 in
set_option maxRecDepth 100000 in
theorem Raw_2 (s : ByteArray) (w : World) (hM : MaxL w) (hs : s.size ≤ 1000000) (hw : 0 < w.heap.size) (h0 : Lib.hasPrefix s.data.toList [60, 33, 45, 45, 62] = false) (h1 : Lib.hasPrefix s.data.toList [60, 33, 45, 45, 45, 62] = false) (h2 : Lib.hasPrefix s.data.toList [60, 33, 45, 45] = true) :
    Calls Tryd.prog 9 #[.string s] w fun e w' => e = .returned (.int .i64 (upToF s 4 [45, 45, 62] : Nat)) ∧ Below w.heap.size w w' := by
  have HM := Lib.hid hM
  clear hM
  go_enter Tryd.func9, Tryd.ntmps9
  go_wp2_with fail
  refine wp_loop_rounds 4 ?_
  rw [rounds_succ]
  go_wp2_with fail
  have B0 := (Below.refl w.heap.size w).alloc (Nat.le_refl _) (Obj.cells #[Value.string ⟨#[60, 33, 45, 45, 62]⟩, Value.string ⟨#[60, 33, 45, 45, 45, 62]⟩] 9)
  have K := heap_alloc_new w (Obj.cells #[Value.string ⟨#[60, 33, 45, 45, 62]⟩, Value.string ⟨#[60, 33, 45, 45, 45, 62]⟩] 9)
  generalize w.alloc (Obj.cells #[Value.string ⟨#[60, 33, 45, 45, 62]⟩, Value.string ⟨#[60, 33, 45, 45, 45, 62]⟩] 9) = w2 at *
  have k1 := blk_cell K 1
  have kz := blk_lt K
  simp at k1
  clear K
  refine (Tryd.strings_HasPrefix s ⟨#[60, 33, 45, 45, 62]⟩ _).mono ?_
  rintro e x0 ⟨rfl, rfl⟩
  rw [show (ByteArray.mk #[60, 33, 45, 45, 62]).data.toList = [60, 33, 45, 45, 62] from rfl, h0]
  go_wp2_with fail
  rw [rounds_succ]
  go_wp2_with fail
  refine (Tryd.strings_HasPrefix s ⟨#[60, 33, 45, 45, 45, 62]⟩ _).mono ?_
  rintro e x1 ⟨rfl, rfl⟩
  rw [show (ByteArray.mk #[60, 33, 45, 45, 45, 62]).data.toList = [60, 33, 45, 45, 45, 62] from rfl, h1]
  go_wp2_with fail
  rw [rounds_succ]
  go_wp2_with fail
  refine wp_loop_rounds 4 ?_
  rw [rounds_succ]
  go_wp2_with fail
  have B6 := B0.alloc (by have := B0.size; omega) (Obj.cells #[Value.string ⟨#[60, 33, 45, 45]⟩, Value.string ⟨#[45, 45, 62]⟩, Value.string ⟨#[60, 63]⟩, Value.string ⟨#[63, 62]⟩, Value.string ⟨#[60, 33, 91, 67, 68, 65, 84, 65, 91]⟩, Value.string ⟨#[93, 93, 62]⟩] 31)
  have K6 := heap_alloc_new x1 (Obj.cells #[Value.string ⟨#[60, 33, 45, 45]⟩, Value.string ⟨#[45, 45, 62]⟩, Value.string ⟨#[60, 63]⟩, Value.string ⟨#[63, 62]⟩, Value.string ⟨#[60, 33, 91, 67, 68, 65, 84, 65, 91]⟩, Value.string ⟨#[93, 93, 62]⟩] 31)
  have hz6 : (x1.alloc (Obj.cells #[Value.string ⟨#[60, 33, 45, 45]⟩, Value.string ⟨#[45, 45, 62]⟩, Value.string ⟨#[60, 63]⟩, Value.string ⟨#[63, 62]⟩, Value.string ⟨#[60, 33, 91, 67, 68, 65, 84, 65, 91]⟩, Value.string ⟨#[93, 93, 62]⟩] 31)).heap.size = x1.heap.size + 1 := World.size_alloc _ _
  generalize x1.alloc (Obj.cells #[Value.string ⟨#[60, 33, 45, 45]⟩, Value.string ⟨#[45, 45, 62]⟩, Value.string ⟨#[60, 63]⟩, Value.string ⟨#[63, 62]⟩, Value.string ⟨#[60, 33, 91, 67, 68, 65, 84, 65, 91]⟩, Value.string ⟨#[93, 93, 62]⟩] 31) = v0 at *
  generalize x1.heap.size = b6 at *
  have z6 := blk_lt K6
  clear k1 kz B0
  have B7 := B6.alloc (by have := B6.size; omega) (Obj.cells #[Value.string ⟨#[60, 33, 45, 45]⟩, Value.string ⟨#[45, 45, 62]⟩] 31)
  have K7 := heap_alloc_new v0 (Obj.cells #[Value.string ⟨#[60, 33, 45, 45]⟩, Value.string ⟨#[45, 45, 62]⟩] 31)
  replace K6 := (Go.RowKit.Below.heap_alloc v0 (Obj.cells #[Value.string ⟨#[60, 33, 45, 45]⟩, Value.string ⟨#[45, 45, 62]⟩] 31) b6 z6).trans K6
  generalize v0.alloc (Obj.cells #[Value.string ⟨#[60, 33, 45, 45]⟩, Value.string ⟨#[45, 45, 62]⟩] 31) = v1 at *
  rw [hz6] at K7
  clear hz6
  replace z6 := blk_lt K6
  have c7a := blk_cell K7 0
  have c7b := blk_cell K7 1
  have d0a := blk_cell K6 2
  have d0b := blk_cell K6 3
  simp at c7a c7b d0a d0b
  have y7 := blk_lt K7
  clear K7
  refine (Tryd.strings_HasPrefix s ⟨#[60, 33, 45, 45]⟩ _).mono ?_
  rintro e x2 ⟨rfl, hx2⟩
  rw [hx2]
  clear hx2
  rw [show (ByteArray.mk #[60, 33, 45, 45]).data.toList = [60, 33, 45, 45] from rfl, h2]
  go_wp2_with fail
  refine (upTo_calls s ⟨#[60, 33, 45, 45]⟩ ⟨#[45, 45, 62]⟩ _ (HM.out.below B7 hw) hs (pre_le s _ h2) (by decide)).mono ?_
  rintro e y ⟨rfl, rfl⟩
  go_wp2_with fail
  go_ret
  exact ⟨rfl, B7⟩

set_option maxHeartbeats 4000000 in
set_option maxRecDepth 100000 in
theorem Raw_3 (s : ByteArray) (w : World) (hM : MaxL w) (hs : s.size ≤ 1000000) (hw : 0 < w.heap.size) (h0 : Lib.hasPrefix s.data.toList [60, 33, 45, 45, 62] = false) (h1 : Lib.hasPrefix s.data.toList [60, 33, 45, 45, 45, 62] = false) (h2 : Lib.hasPrefix s.data.toList [60, 33, 45, 45] = false) (h3 : Lib.hasPrefix s.data.toList [60, 63] = true) :
    Calls Tryd.prog 9 #[.string s] w fun e w' => e = .returned (.int .i64 (upToF s 2 [63, 62] : Nat)) ∧ Below w.heap.size w w' := by
  have HM := Lib.hid hM
  clear hM
  go_enter Tryd.func9, Tryd.ntmps9
  go_wp2_with fail
  refine wp_loop_rounds 4 ?_
  rw [rounds_succ]
  go_wp2_with fail
  have B0 := (Below.refl w.heap.size w).alloc (Nat.le_refl _) (Obj.cells #[Value.string ⟨#[60, 33, 45, 45, 62]⟩, Value.string ⟨#[60, 33, 45, 45, 45, 62]⟩] 9)
  have K := heap_alloc_new w (Obj.cells #[Value.string ⟨#[60, 33, 45, 45, 62]⟩, Value.string ⟨#[60, 33, 45, 45, 45, 62]⟩] 9)
  generalize w.alloc (Obj.cells #[Value.string ⟨#[60, 33, 45, 45, 62]⟩, Value.string ⟨#[60, 33, 45, 45, 45, 62]⟩] 9) = w2 at *
  have k1 := blk_cell K 1
  have kz := blk_lt K
  simp at k1
  clear K
  refine (Tryd.strings_HasPrefix s ⟨#[60, 33, 45, 45, 62]⟩ _).mono ?_
  rintro e x0 ⟨rfl, rfl⟩
  rw [show (ByteArray.mk #[60, 33, 45, 45, 62]).data.toList = [60, 33, 45, 45, 62] from rfl, h0]
  go_wp2_with fail
  rw [rounds_succ]
  go_wp2_with fail
  refine (Tryd.strings_HasPrefix s ⟨#[60, 33, 45, 45, 45, 62]⟩ _).mono ?_
  rintro e x1 ⟨rfl, rfl⟩
  rw [show (ByteArray.mk #[60, 33, 45, 45, 45, 62]).data.toList = [60, 33, 45, 45, 45, 62] from rfl, h1]
  go_wp2_with fail
  rw [rounds_succ]
  go_wp2_with fail
  refine wp_loop_rounds 4 ?_
  rw [rounds_succ]
  go_wp2_with fail
  have B6 := B0.alloc (by have := B0.size; omega) (Obj.cells #[Value.string ⟨#[60, 33, 45, 45]⟩, Value.string ⟨#[45, 45, 62]⟩, Value.string ⟨#[60, 63]⟩, Value.string ⟨#[63, 62]⟩, Value.string ⟨#[60, 33, 91, 67, 68, 65, 84, 65, 91]⟩, Value.string ⟨#[93, 93, 62]⟩] 31)
  have K6 := heap_alloc_new x1 (Obj.cells #[Value.string ⟨#[60, 33, 45, 45]⟩, Value.string ⟨#[45, 45, 62]⟩, Value.string ⟨#[60, 63]⟩, Value.string ⟨#[63, 62]⟩, Value.string ⟨#[60, 33, 91, 67, 68, 65, 84, 65, 91]⟩, Value.string ⟨#[93, 93, 62]⟩] 31)
  have hz6 : (x1.alloc (Obj.cells #[Value.string ⟨#[60, 33, 45, 45]⟩, Value.string ⟨#[45, 45, 62]⟩, Value.string ⟨#[60, 63]⟩, Value.string ⟨#[63, 62]⟩, Value.string ⟨#[60, 33, 91, 67, 68, 65, 84, 65, 91]⟩, Value.string ⟨#[93, 93, 62]⟩] 31)).heap.size = x1.heap.size + 1 := World.size_alloc _ _
  generalize x1.alloc (Obj.cells #[Value.string ⟨#[60, 33, 45, 45]⟩, Value.string ⟨#[45, 45, 62]⟩, Value.string ⟨#[60, 63]⟩, Value.string ⟨#[63, 62]⟩, Value.string ⟨#[60, 33, 91, 67, 68, 65, 84, 65, 91]⟩, Value.string ⟨#[93, 93, 62]⟩] 31) = v0 at *
  generalize x1.heap.size = b6 at *
  have z6 := blk_lt K6
  clear k1 kz B0
  have B7 := B6.alloc (by have := B6.size; omega) (Obj.cells #[Value.string ⟨#[60, 33, 45, 45]⟩, Value.string ⟨#[45, 45, 62]⟩] 31)
  have K7 := heap_alloc_new v0 (Obj.cells #[Value.string ⟨#[60, 33, 45, 45]⟩, Value.string ⟨#[45, 45, 62]⟩] 31)
  replace K6 := (Go.RowKit.Below.heap_alloc v0 (Obj.cells #[Value.string ⟨#[60, 33, 45, 45]⟩, Value.string ⟨#[45, 45, 62]⟩] 31) b6 z6).trans K6
  generalize v0.alloc (Obj.cells #[Value.string ⟨#[60, 33, 45, 45]⟩, Value.string ⟨#[45, 45, 62]⟩] 31) = v1 at *
  rw [hz6] at K7
  clear hz6
  replace z6 := blk_lt K6
  have c7a := blk_cell K7 0
  have c7b := blk_cell K7 1
  have d0a := blk_cell K6 2
  have d0b := blk_cell K6 3
  simp at c7a c7b d0a d0b
  have y7 := blk_lt K7
  clear K7
  refine (Tryd.strings_HasPrefix s ⟨#[60, 33, 45, 45]⟩ _).mono ?_
  rintro e x2 ⟨rfl, hx2⟩
  rw [hx2]
  clear hx2
  rw [show (ByteArray.mk #[60, 33, 45, 45]).data.toList = [60, 33, 45, 45] from rfl, h2]
  go_wp2_with fail
  clear c7a c7b
  rw [rounds_succ]
  go_wp2_with fail
  have B8 := B7.alloc (by have := B7.size; omega) (Obj.cells #[Value.string ⟨#[60, 63]⟩, Value.string ⟨#[63, 62]⟩] 31)
  have K8 := heap_alloc_new v1 (Obj.cells #[Value.string ⟨#[60, 63]⟩, Value.string ⟨#[63, 62]⟩] 31)
  replace K6 := (Go.RowKit.Below.heap_alloc v1 (Obj.cells #[Value.string ⟨#[60, 63]⟩, Value.string ⟨#[63, 62]⟩] 31) b6 z6).trans K6
  generalize v1.alloc (Obj.cells #[Value.string ⟨#[60, 63]⟩, Value.string ⟨#[63, 62]⟩] 31) = v2 at *
  generalize v1.heap.size = b8 at *
  replace z6 := blk_lt K6
  have c8a := blk_cell K8 0
  have c8b := blk_cell K8 1
  have d1a := blk_cell K6 4
  have d1b := blk_cell K6 5
  simp at c8a c8b d1a d1b
  have y8 := blk_lt K8
  clear K8
  refine (Tryd.strings_HasPrefix s ⟨#[60, 63]⟩ _).mono ?_
  rintro e x3 ⟨rfl, hx3⟩
  rw [hx3]
  clear hx3
  rw [show (ByteArray.mk #[60, 63]).data.toList = [60, 63] from rfl, h3]
  go_wp2_with fail
  refine (upTo_calls s ⟨#[60, 63]⟩ ⟨#[63, 62]⟩ _ (HM.out.below B8 hw) hs (pre_le s _ h3) (by decide)).mono ?_
  rintro e y ⟨rfl, rfl⟩
  go_wp2_with fail
  go_ret
  exact ⟨rfl, B8⟩

set_option maxHeartbeats 4000000 in
set_option maxRecDepth 100000 in
theorem Raw_4 (s : ByteArray) (w : World) (hM : MaxL w) (hs : s.size ≤ 1000000) (hw : 0 < w.heap.size) (h0 : Lib.hasPrefix s.data.toList [60, 33, 45, 45, 62] = false) (h1 : Lib.hasPrefix s.data.toList [60, 33, 45, 45, 45, 62] = false) (h2 : Lib.hasPrefix s.data.toList [60, 33, 45, 45] = false) (h3 : Lib.hasPrefix s.data.toList [60, 63] = false) (h4 : Lib.hasPrefix s.data.toList [60, 33, 91, 67, 68, 65, 84, 65, 91] = true) :
    Calls Tryd.prog 9 #[.string s] w fun e w' => e = .returned (.int .i64 (upToF s 9 [93, 93, 62] : Nat)) ∧ Below w.heap.size w w' := by
  have HM := Lib.hid hM
  clear hM
  go_enter Tryd.func9, Tryd.ntmps9
  go_wp2_with fail
  refine wp_loop_rounds 4 ?_
  rw [rounds_succ]
  go_wp2_with fail
  have B0 := (Below.refl w.heap.size w).alloc (Nat.le_refl _) (Obj.cells #[Value.string ⟨#[60, 33, 45, 45, 62]⟩, Value.string ⟨#[60, 33, 45, 45, 45, 62]⟩] 9)
  have K := heap_alloc_new w (Obj.cells #[Value.string ⟨#[60, 33, 45, 45, 62]⟩, Value.string ⟨#[60, 33, 45, 45, 45, 62]⟩] 9)
  generalize w.alloc (Obj.cells #[Value.string ⟨#[60, 33, 45, 45, 62]⟩, Value.string ⟨#[60, 33, 45, 45, 45, 62]⟩] 9) = w2 at *
  have k1 := blk_cell K 1
  have kz := blk_lt K
  simp at k1
  clear K
  refine (Tryd.strings_HasPrefix s ⟨#[60, 33, 45, 45, 62]⟩ _).mono ?_
  rintro e x0 ⟨rfl, rfl⟩
  rw [show (ByteArray.mk #[60, 33, 45, 45, 62]).data.toList = [60, 33, 45, 45, 62] from rfl, h0]
  go_wp2_with fail
  rw [rounds_succ]
  go_wp2_with fail
  refine (Tryd.strings_HasPrefix s ⟨#[60, 33, 45, 45, 45, 62]⟩ _).mono ?_
  rintro e x1 ⟨rfl, rfl⟩
  rw [show (ByteArray.mk #[60, 33, 45, 45, 45, 62]).data.toList = [60, 33, 45, 45, 45, 62] from rfl, h1]
  go_wp2_with fail
  rw [rounds_succ]
  go_wp2_with fail
  refine wp_loop_rounds 4 ?_
  rw [rounds_succ]
  go_wp2_with fail
  have B6 := B0.alloc (by have := B0.size; omega) (Obj.cells #[Value.string ⟨#[60, 33, 45, 45]⟩, Value.string ⟨#[45, 45, 62]⟩, Value.string ⟨#[60, 63]⟩, Value.string ⟨#[63, 62]⟩, Value.string ⟨#[60, 33, 91, 67, 68, 65, 84, 65, 91]⟩, Value.string ⟨#[93, 93, 62]⟩] 31)
  have K6 := heap_alloc_new x1 (Obj.cells #[Value.string ⟨#[60, 33, 45, 45]⟩, Value.string ⟨#[45, 45, 62]⟩, Value.string ⟨#[60, 63]⟩, Value.string ⟨#[63, 62]⟩, Value.string ⟨#[60, 33, 91, 67, 68, 65, 84, 65, 91]⟩, Value.string ⟨#[93, 93, 62]⟩] 31)
  have hz6 : (x1.alloc (Obj.cells #[Value.string ⟨#[60, 33, 45, 45]⟩, Value.string ⟨#[45, 45, 62]⟩, Value.string ⟨#[60, 63]⟩, Value.string ⟨#[63, 62]⟩, Value.string ⟨#[60, 33, 91, 67, 68, 65, 84, 65, 91]⟩, Value.string ⟨#[93, 93, 62]⟩] 31)).heap.size = x1.heap.size + 1 := World.size_alloc _ _
  generalize x1.alloc (Obj.cells #[Value.string ⟨#[60, 33, 45, 45]⟩, Value.string ⟨#[45, 45, 62]⟩, Value.string ⟨#[60, 63]⟩, Value.string ⟨#[63, 62]⟩, Value.string ⟨#[60, 33, 91, 67, 68, 65, 84, 65, 91]⟩, Value.string ⟨#[93, 93, 62]⟩] 31) = v0 at *
  generalize x1.heap.size = b6 at *
  have z6 := blk_lt K6
  clear k1 kz B0
  have B7 := B6.alloc (by have := B6.size; omega) (Obj.cells #[Value.string ⟨#[60, 33, 45, 45]⟩, Value.string ⟨#[45, 45, 62]⟩] 31)
  have K7 := heap_alloc_new v0 (Obj.cells #[Value.string ⟨#[60, 33, 45, 45]⟩, Value.string ⟨#[45, 45, 62]⟩] 31)
  replace K6 := (Go.RowKit.Below.heap_alloc v0 (Obj.cells #[Value.string ⟨#[60, 33, 45, 45]⟩, Value.string ⟨#[45, 45, 62]⟩] 31) b6 z6).trans K6
  generalize v0.alloc (Obj.cells #[Value.string ⟨#[60, 33, 45, 45]⟩, Value.string ⟨#[45, 45, 62]⟩] 31) = v1 at *
  rw [hz6] at K7
  clear hz6
  replace z6 := blk_lt K6
  have c7a := blk_cell K7 0
  have c7b := blk_cell K7 1
  have d0a := blk_cell K6 2
  have d0b := blk_cell K6 3
  simp at c7a c7b d0a d0b
  have y7 := blk_lt K7
  clear K7
  refine (Tryd.strings_HasPrefix s ⟨#[60, 33, 45, 45]⟩ _).mono ?_
  rintro e x2 ⟨rfl, hx2⟩
  rw [hx2]
  clear hx2
  rw [show (ByteArray.mk #[60, 33, 45, 45]).data.toList = [60, 33, 45, 45] from rfl, h2]
  go_wp2_with fail
  clear c7a c7b
  rw [rounds_succ]
  go_wp2_with fail
  have B8 := B7.alloc (by have := B7.size; omega) (Obj.cells #[Value.string ⟨#[60, 63]⟩, Value.string ⟨#[63, 62]⟩] 31)
  have K8 := heap_alloc_new v1 (Obj.cells #[Value.string ⟨#[60, 63]⟩, Value.string ⟨#[63, 62]⟩] 31)
  replace K6 := (Go.RowKit.Below.heap_alloc v1 (Obj.cells #[Value.string ⟨#[60, 63]⟩, Value.string ⟨#[63, 62]⟩] 31) b6 z6).trans K6
  generalize v1.alloc (Obj.cells #[Value.string ⟨#[60, 63]⟩, Value.string ⟨#[63, 62]⟩] 31) = v2 at *
  generalize v1.heap.size = b8 at *
  replace z6 := blk_lt K6
  have c8a := blk_cell K8 0
  have c8b := blk_cell K8 1
  have d1a := blk_cell K6 4
  have d1b := blk_cell K6 5
  simp at c8a c8b d1a d1b
  have y8 := blk_lt K8
  clear K8
  refine (Tryd.strings_HasPrefix s ⟨#[60, 63]⟩ _).mono ?_
  rintro e x3 ⟨rfl, hx3⟩
  rw [hx3]
  clear hx3
  rw [show (ByteArray.mk #[60, 63]).data.toList = [60, 63] from rfl, h3]
  go_wp2_with fail
  clear c8a c8b
  rw [rounds_succ]
  go_wp2_with fail
  have B9 := B8.alloc (by have := B8.size; omega) (Obj.cells #[Value.string ⟨#[60, 33, 91, 67, 68, 65, 84, 65, 91]⟩, Value.string ⟨#[93, 93, 62]⟩] 31)
  have K9 := heap_alloc_new v2 (Obj.cells #[Value.string ⟨#[60, 33, 91, 67, 68, 65, 84, 65, 91]⟩, Value.string ⟨#[93, 93, 62]⟩] 31)
  replace K6 := (Go.RowKit.Below.heap_alloc v2 (Obj.cells #[Value.string ⟨#[60, 33, 91, 67, 68, 65, 84, 65, 91]⟩, Value.string ⟨#[93, 93, 62]⟩] 31) b6 z6).trans K6
  generalize v2.alloc (Obj.cells #[Value.string ⟨#[60, 33, 91, 67, 68, 65, 84, 65, 91]⟩, Value.string ⟨#[93, 93, 62]⟩] 31) = v3 at *
  generalize v2.heap.size = b9 at *
  replace z6 := blk_lt K6
  have c9a := blk_cell K9 0
  have c9b := blk_cell K9 1
  simp at c9a c9b
  have y9 := blk_lt K9
  clear K9
  refine (Tryd.strings_HasPrefix s ⟨#[60, 33, 91, 67, 68, 65, 84, 65, 91]⟩ _).mono ?_
  rintro e x4 ⟨rfl, hx4⟩
  rw [hx4]
  clear hx4
  rw [show (ByteArray.mk #[60, 33, 91, 67, 68, 65, 84, 65, 91]).data.toList = [60, 33, 91, 67, 68, 65, 84, 65, 91] from rfl, h4]
  go_wp2_with fail
  refine (upTo_calls s ⟨#[60, 33, 91, 67, 68, 65, 84, 65, 91]⟩ ⟨#[93, 93, 62]⟩ _ (HM.out.below B9 hw) hs (pre_le s _ h4) (by decide)).mono ?_
  rintro e y ⟨rfl, rfl⟩
  go_wp2_with fail
  go_ret
  exact ⟨rfl, B9⟩

set_option maxHeartbeats 4000000 in
set_option maxRecDepth 100000 in
theorem Raw_5 (s : ByteArray) (w : World) (hM : MaxL w) (hs : s.size ≤ 1000000) (hw : 0 < w.heap.size) (h0 : Lib.hasPrefix s.data.toList [60, 33, 45, 45, 62] = false) (h1 : Lib.hasPrefix s.data.toList [60, 33, 45, 45, 45, 62] = false) (h2 : Lib.hasPrefix s.data.toList [60, 33, 45, 45] = false) (h3 : Lib.hasPrefix s.data.toList [60, 63] = false) (h4 : Lib.hasPrefix s.data.toList [60, 33, 91, 67, 68, 65, 84, 65, 91] = false) (hd : declF s = true) :
    Calls Tryd.prog 9 #[.string s] w fun e w' => e = .returned (.int .i64 (upToF s 3 [62] : Nat)) ∧ Below w.heap.size w w' := by
  have HM := Lib.hid hM
  clear hM
  go_enter Tryd.func9, Tryd.ntmps9
  go_wp2_with fail
  refine wp_loop_rounds 4 ?_
  rw [rounds_succ]
  go_wp2_with fail
  have B0 := (Below.refl w.heap.size w).alloc (Nat.le_refl _) (Obj.cells #[Value.string ⟨#[60, 33, 45, 45, 62]⟩, Value.string ⟨#[60, 33, 45, 45, 45, 62]⟩] 9)
  have K := heap_alloc_new w (Obj.cells #[Value.string ⟨#[60, 33, 45, 45, 62]⟩, Value.string ⟨#[60, 33, 45, 45, 45, 62]⟩] 9)
  generalize w.alloc (Obj.cells #[Value.string ⟨#[60, 33, 45, 45, 62]⟩, Value.string ⟨#[60, 33, 45, 45, 45, 62]⟩] 9) = w2 at *
  have k1 := blk_cell K 1
  have kz := blk_lt K
  simp at k1
  clear K
  refine (Tryd.strings_HasPrefix s ⟨#[60, 33, 45, 45, 62]⟩ _).mono ?_
  rintro e x0 ⟨rfl, rfl⟩
  rw [show (ByteArray.mk #[60, 33, 45, 45, 62]).data.toList = [60, 33, 45, 45, 62] from rfl, h0]
  go_wp2_with fail
  rw [rounds_succ]
  go_wp2_with fail
  refine (Tryd.strings_HasPrefix s ⟨#[60, 33, 45, 45, 45, 62]⟩ _).mono ?_
  rintro e x1 ⟨rfl, rfl⟩
  rw [show (ByteArray.mk #[60, 33, 45, 45, 45, 62]).data.toList = [60, 33, 45, 45, 45, 62] from rfl, h1]
  go_wp2_with fail
  rw [rounds_succ]
  go_wp2_with fail
  refine wp_loop_rounds 4 ?_
  rw [rounds_succ]
  go_wp2_with fail
  have B6 := B0.alloc (by have := B0.size; omega) (Obj.cells #[Value.string ⟨#[60, 33, 45, 45]⟩, Value.string ⟨#[45, 45, 62]⟩, Value.string ⟨#[60, 63]⟩, Value.string ⟨#[63, 62]⟩, Value.string ⟨#[60, 33, 91, 67, 68, 65, 84, 65, 91]⟩, Value.string ⟨#[93, 93, 62]⟩] 31)
  have K6 := heap_alloc_new x1 (Obj.cells #[Value.string ⟨#[60, 33, 45, 45]⟩, Value.string ⟨#[45, 45, 62]⟩, Value.string ⟨#[60, 63]⟩, Value.string ⟨#[63, 62]⟩, Value.string ⟨#[60, 33, 91, 67, 68, 65, 84, 65, 91]⟩, Value.string ⟨#[93, 93, 62]⟩] 31)
  have hz6 : (x1.alloc (Obj.cells #[Value.string ⟨#[60, 33, 45, 45]⟩, Value.string ⟨#[45, 45, 62]⟩, Value.string ⟨#[60, 63]⟩, Value.string ⟨#[63, 62]⟩, Value.string ⟨#[60, 33, 91, 67, 68, 65, 84, 65, 91]⟩, Value.string ⟨#[93, 93, 62]⟩] 31)).heap.size = x1.heap.size + 1 := World.size_alloc _ _
  generalize x1.alloc (Obj.cells #[Value.string ⟨#[60, 33, 45, 45]⟩, Value.string ⟨#[45, 45, 62]⟩, Value.string ⟨#[60, 63]⟩, Value.string ⟨#[63, 62]⟩, Value.string ⟨#[60, 33, 91, 67, 68, 65, 84, 65, 91]⟩, Value.string ⟨#[93, 93, 62]⟩] 31) = v0 at *
  generalize x1.heap.size = b6 at *
  have z6 := blk_lt K6
  clear k1 kz B0
  have B7 := B6.alloc (by have := B6.size; omega) (Obj.cells #[Value.string ⟨#[60, 33, 45, 45]⟩, Value.string ⟨#[45, 45, 62]⟩] 31)
  have K7 := heap_alloc_new v0 (Obj.cells #[Value.string ⟨#[60, 33, 45, 45]⟩, Value.string ⟨#[45, 45, 62]⟩] 31)
  replace K6 := (Go.RowKit.Below.heap_alloc v0 (Obj.cells #[Value.string ⟨#[60, 33, 45, 45]⟩, Value.string ⟨#[45, 45, 62]⟩] 31) b6 z6).trans K6
  generalize v0.alloc (Obj.cells #[Value.string ⟨#[60, 33, 45, 45]⟩, Value.string ⟨#[45, 45, 62]⟩] 31) = v1 at *
  rw [hz6] at K7
  clear hz6
  replace z6 := blk_lt K6
  have c7a := blk_cell K7 0
  have c7b := blk_cell K7 1
  have d0a := blk_cell K6 2
  have d0b := blk_cell K6 3
  simp at c7a c7b d0a d0b
  have y7 := blk_lt K7
  clear K7
  refine (Tryd.strings_HasPrefix s ⟨#[60, 33, 45, 45]⟩ _).mono ?_
  rintro e x2 ⟨rfl, hx2⟩
  rw [hx2]
  clear hx2
  rw [show (ByteArray.mk #[60, 33, 45, 45]).data.toList = [60, 33, 45, 45] from rfl, h2]
  go_wp2_with fail
  clear c7a c7b
  rw [rounds_succ]
  go_wp2_with fail
  have B8 := B7.alloc (by have := B7.size; omega) (Obj.cells #[Value.string ⟨#[60, 63]⟩, Value.string ⟨#[63, 62]⟩] 31)
  have K8 := heap_alloc_new v1 (Obj.cells #[Value.string ⟨#[60, 63]⟩, Value.string ⟨#[63, 62]⟩] 31)
  replace K6 := (Go.RowKit.Below.heap_alloc v1 (Obj.cells #[Value.string ⟨#[60, 63]⟩, Value.string ⟨#[63, 62]⟩] 31) b6 z6).trans K6
  generalize v1.alloc (Obj.cells #[Value.string ⟨#[60, 63]⟩, Value.string ⟨#[63, 62]⟩] 31) = v2 at *
  generalize v1.heap.size = b8 at *
  replace z6 := blk_lt K6
  have c8a := blk_cell K8 0
  have c8b := blk_cell K8 1
  have d1a := blk_cell K6 4
  have d1b := blk_cell K6 5
  simp at c8a c8b d1a d1b
  have y8 := blk_lt K8
  clear K8
  refine (Tryd.strings_HasPrefix s ⟨#[60, 63]⟩ _).mono ?_
  rintro e x3 ⟨rfl, hx3⟩
  rw [hx3]
  clear hx3
  rw [show (ByteArray.mk #[60, 63]).data.toList = [60, 63] from rfl, h3]
  go_wp2_with fail
  clear c8a c8b
  rw [rounds_succ]
  go_wp2_with fail
  have B9 := B8.alloc (by have := B8.size; omega) (Obj.cells #[Value.string ⟨#[60, 33, 91, 67, 68, 65, 84, 65, 91]⟩, Value.string ⟨#[93, 93, 62]⟩] 31)
  have K9 := heap_alloc_new v2 (Obj.cells #[Value.string ⟨#[60, 33, 91, 67, 68, 65, 84, 65, 91]⟩, Value.string ⟨#[93, 93, 62]⟩] 31)
  replace K6 := (Go.RowKit.Below.heap_alloc v2 (Obj.cells #[Value.string ⟨#[60, 33, 91, 67, 68, 65, 84, 65, 91]⟩, Value.string ⟨#[93, 93, 62]⟩] 31) b6 z6).trans K6
  generalize v2.alloc (Obj.cells #[Value.string ⟨#[60, 33, 91, 67, 68, 65, 84, 65, 91]⟩, Value.string ⟨#[93, 93, 62]⟩] 31) = v3 at *
  generalize v2.heap.size = b9 at *
  replace z6 := blk_lt K6
  have c9a := blk_cell K9 0
  have c9b := blk_cell K9 1
  simp at c9a c9b
  have y9 := blk_lt K9
  clear K9
  refine (Tryd.strings_HasPrefix s ⟨#[60, 33, 91, 67, 68, 65, 84, 65, 91]⟩ _).mono ?_
  rintro e x4 ⟨rfl, hx4⟩
  rw [hx4]
  clear hx4
  rw [show (ByteArray.mk #[60, 33, 91, 67, 68, 65, 84, 65, 91]).data.toList = [60, 33, 91, 67, 68, 65, 84, 65, 91] from rfl, h4]
  go_wp2_with fail
  clear c9a c9b
  rw [rounds_succ]
  go_wp2_with fail
  refine (declares_calls s _ hs).mono ?_
  rintro e y ⟨rfl, rfl⟩
  rw [hd]
  have g2 : 2 < s.size := by
    unfold declF at hd
    simp only [Bool.and_eq_true, decide_eq_true_eq] at hd
    exact hd.1
  have hes : (s.extract 0 3).size = 3 := by rw [ByteArray.size_extract]; omega
  have hup := upTo_calls s (s.extract 0 3) ⟨#[62]⟩ y (HM.out.below B9 hw) hs (by omega) (by decide)
  rw [hes] at hup
  have i3 : (3 : Int) ≤ (s.size : Int) := by omega
  have i4 : ¬ ((s.size : Int) < 3) := by omega
  clear hes hd
  go_wp2_with fail
  refine hup.mono ?_
  rintro e z ⟨rfl, rfl⟩
  go_wp2_with fail
  go_ret
  exact ⟨rfl, B9⟩

set_option maxHeartbeats 4000000 in
set_option maxRecDepth 100000 in
theorem Raw_6 (s : ByteArray) (w : World) (hM : MaxL w) (hs : s.size ≤ 1000000) (hw : 0 < w.heap.size) (h0 : Lib.hasPrefix s.data.toList [60, 33, 45, 45, 62] = false) (h1 : Lib.hasPrefix s.data.toList [60, 33, 45, 45, 45, 62] = false) (h2 : Lib.hasPrefix s.data.toList [60, 33, 45, 45] = false) (h3 : Lib.hasPrefix s.data.toList [60, 63] = false) (h4 : Lib.hasPrefix s.data.toList [60, 33, 91, 67, 68, 65, 84, 65, 91] = false) (hd : declF s = false) :
    Calls Tryd.prog 9 #[.string s] w fun e w' => e = .returned (.int .i64 (openN s : Nat)) ∧ Below w.heap.size w w' := by
  have HM := Lib.hid hM
  clear hM
  go_enter Tryd.func9, Tryd.ntmps9
  go_wp2_with fail
  refine wp_loop_rounds 4 ?_
  rw [rounds_succ]
  go_wp2_with fail
  have B0 := (Below.refl w.heap.size w).alloc (Nat.le_refl _) (Obj.cells #[Value.string ⟨#[60, 33, 45, 45, 62]⟩, Value.string ⟨#[60, 33, 45, 45, 45, 62]⟩] 9)
  have K := heap_alloc_new w (Obj.cells #[Value.string ⟨#[60, 33, 45, 45, 62]⟩, Value.string ⟨#[60, 33, 45, 45, 45, 62]⟩] 9)
  generalize w.alloc (Obj.cells #[Value.string ⟨#[60, 33, 45, 45, 62]⟩, Value.string ⟨#[60, 33, 45, 45, 45, 62]⟩] 9) = w2 at *
  have k1 := blk_cell K 1
  have kz := blk_lt K
  simp at k1
  clear K
  refine (Tryd.strings_HasPrefix s ⟨#[60, 33, 45, 45, 62]⟩ _).mono ?_
  rintro e x0 ⟨rfl, rfl⟩
  rw [show (ByteArray.mk #[60, 33, 45, 45, 62]).data.toList = [60, 33, 45, 45, 62] from rfl, h0]
  go_wp2_with fail
  rw [rounds_succ]
  go_wp2_with fail
  refine (Tryd.strings_HasPrefix s ⟨#[60, 33, 45, 45, 45, 62]⟩ _).mono ?_
  rintro e x1 ⟨rfl, rfl⟩
  rw [show (ByteArray.mk #[60, 33, 45, 45, 45, 62]).data.toList = [60, 33, 45, 45, 45, 62] from rfl, h1]
  go_wp2_with fail
  rw [rounds_succ]
  go_wp2_with fail
  refine wp_loop_rounds 4 ?_
  rw [rounds_succ]
  go_wp2_with fail
  have B6 := B0.alloc (by have := B0.size; omega) (Obj.cells #[Value.string ⟨#[60, 33, 45, 45]⟩, Value.string ⟨#[45, 45, 62]⟩, Value.string ⟨#[60, 63]⟩, Value.string ⟨#[63, 62]⟩, Value.string ⟨#[60, 33, 91, 67, 68, 65, 84, 65, 91]⟩, Value.string ⟨#[93, 93, 62]⟩] 31)
  have K6 := heap_alloc_new x1 (Obj.cells #[Value.string ⟨#[60, 33, 45, 45]⟩, Value.string ⟨#[45, 45, 62]⟩, Value.string ⟨#[60, 63]⟩, Value.string ⟨#[63, 62]⟩, Value.string ⟨#[60, 33, 91, 67, 68, 65, 84, 65, 91]⟩, Value.string ⟨#[93, 93, 62]⟩] 31)
  have hz6 : (x1.alloc (Obj.cells #[Value.string ⟨#[60, 33, 45, 45]⟩, Value.string ⟨#[45, 45, 62]⟩, Value.string ⟨#[60, 63]⟩, Value.string ⟨#[63, 62]⟩, Value.string ⟨#[60, 33, 91, 67, 68, 65, 84, 65, 91]⟩, Value.string ⟨#[93, 93, 62]⟩] 31)).heap.size = x1.heap.size + 1 := World.size_alloc _ _
  generalize x1.alloc (Obj.cells #[Value.string ⟨#[60, 33, 45, 45]⟩, Value.string ⟨#[45, 45, 62]⟩, Value.string ⟨#[60, 63]⟩, Value.string ⟨#[63, 62]⟩, Value.string ⟨#[60, 33, 91, 67, 68, 65, 84, 65, 91]⟩, Value.string ⟨#[93, 93, 62]⟩] 31) = v0 at *
  generalize x1.heap.size = b6 at *
  have z6 := blk_lt K6
  clear k1 kz B0
  have B7 := B6.alloc (by have := B6.size; omega) (Obj.cells #[Value.string ⟨#[60, 33, 45, 45]⟩, Value.string ⟨#[45, 45, 62]⟩] 31)
  have K7 := heap_alloc_new v0 (Obj.cells #[Value.string ⟨#[60, 33, 45, 45]⟩, Value.string ⟨#[45, 45, 62]⟩] 31)
  replace K6 := (Go.RowKit.Below.heap_alloc v0 (Obj.cells #[Value.string ⟨#[60, 33, 45, 45]⟩, Value.string ⟨#[45, 45, 62]⟩] 31) b6 z6).trans K6
  generalize v0.alloc (Obj.cells #[Value.string ⟨#[60, 33, 45, 45]⟩, Value.string ⟨#[45, 45, 62]⟩] 31) = v1 at *
  rw [hz6] at K7
  clear hz6
  replace z6 := blk_lt K6
  have c7a := blk_cell K7 0
  have c7b := blk_cell K7 1
  have d0a := blk_cell K6 2
  have d0b := blk_cell K6 3
  simp at c7a c7b d0a d0b
  have y7 := blk_lt K7
  clear K7
  refine (Tryd.strings_HasPrefix s ⟨#[60, 33, 45, 45]⟩ _).mono ?_
  rintro e x2 ⟨rfl, hx2⟩
  rw [hx2]
  clear hx2
  rw [show (ByteArray.mk #[60, 33, 45, 45]).data.toList = [60, 33, 45, 45] from rfl, h2]
  go_wp2_with fail
  clear c7a c7b
  rw [rounds_succ]
  go_wp2_with fail
  have B8 := B7.alloc (by have := B7.size; omega) (Obj.cells #[Value.string ⟨#[60, 63]⟩, Value.string ⟨#[63, 62]⟩] 31)
  have K8 := heap_alloc_new v1 (Obj.cells #[Value.string ⟨#[60, 63]⟩, Value.string ⟨#[63, 62]⟩] 31)
  replace K6 := (Go.RowKit.Below.heap_alloc v1 (Obj.cells #[Value.string ⟨#[60, 63]⟩, Value.string ⟨#[63, 62]⟩] 31) b6 z6).trans K6
  generalize v1.alloc (Obj.cells #[Value.string ⟨#[60, 63]⟩, Value.string ⟨#[63, 62]⟩] 31) = v2 at *
  generalize v1.heap.size = b8 at *
  replace z6 := blk_lt K6
  have c8a := blk_cell K8 0
  have c8b := blk_cell K8 1
  have d1a := blk_cell K6 4
  have d1b := blk_cell K6 5
  simp at c8a c8b d1a d1b
  have y8 := blk_lt K8
  clear K8
  refine (Tryd.strings_HasPrefix s ⟨#[60, 63]⟩ _).mono ?_
  rintro e x3 ⟨rfl, hx3⟩
  rw [hx3]
  clear hx3
  rw [show (ByteArray.mk #[60, 63]).data.toList = [60, 63] from rfl, h3]
  go_wp2_with fail
  clear c8a c8b
  rw [rounds_succ]
  go_wp2_with fail
  have B9 := B8.alloc (by have := B8.size; omega) (Obj.cells #[Value.string ⟨#[60, 33, 91, 67, 68, 65, 84, 65, 91]⟩, Value.string ⟨#[93, 93, 62]⟩] 31)
  have K9 := heap_alloc_new v2 (Obj.cells #[Value.string ⟨#[60, 33, 91, 67, 68, 65, 84, 65, 91]⟩, Value.string ⟨#[93, 93, 62]⟩] 31)
  replace K6 := (Go.RowKit.Below.heap_alloc v2 (Obj.cells #[Value.string ⟨#[60, 33, 91, 67, 68, 65, 84, 65, 91]⟩, Value.string ⟨#[93, 93, 62]⟩] 31) b6 z6).trans K6
  generalize v2.alloc (Obj.cells #[Value.string ⟨#[60, 33, 91, 67, 68, 65, 84, 65, 91]⟩, Value.string ⟨#[93, 93, 62]⟩] 31) = v3 at *
  generalize v2.heap.size = b9 at *
  replace z6 := blk_lt K6
  have c9a := blk_cell K9 0
  have c9b := blk_cell K9 1
  simp at c9a c9b
  have y9 := blk_lt K9
  clear K9
  refine (Tryd.strings_HasPrefix s ⟨#[60, 33, 91, 67, 68, 65, 84, 65, 91]⟩ _).mono ?_
  rintro e x4 ⟨rfl, hx4⟩
  rw [hx4]
  clear hx4
  rw [show (ByteArray.mk #[60, 33, 91, 67, 68, 65, 84, 65, 91]).data.toList = [60, 33, 91, 67, 68, 65, 84, 65, 91] from rfl, h4]
  go_wp2_with fail
  clear c9a c9b
  rw [rounds_succ]
  go_wp2_with fail
  refine (declares_calls s _ hs).mono ?_
  rintro e y ⟨rfl, rfl⟩
  rw [hd]
  go_wp2_with fail
  refine (Open_calls s y (HM.out.below B9 hw) hs (by have := B9.size; omega)).mono ?_
  rintro e z ⟨rfl, hz⟩
  go_wp2_with fail
  go_ret
  exact ⟨rfl, B9.trans (hz.mono B9.size)⟩

theorem Raw_calls (s : ByteArray) (w : World) (hM : MaxL w) (hs : s.size ≤ 1000000) (hw : 0 < w.heap.size) :
    Calls Tryd.prog 9 #[.string s] w fun e w' => e = .returned (.int .i64 (rawF s : Nat)) ∧ Below w.heap.size w w' := by
  cases h0 : Lib.hasPrefix s.data.toList [60, 33, 45, 45, 62] with
  | true => have e : rawF s = 5 := by unfold rawF; rw [if_pos h0]
            rw [e]; exact Raw_0 s w hM hs hw h0
  | false =>
  cases h1 : Lib.hasPrefix s.data.toList [60, 33, 45, 45, 45, 62] with
  | true => have e : rawF s = 6 := by unfold rawF; rw [h0, if_neg (by simp), if_pos h1]
            rw [e]; exact Raw_1 s w hM hs hw h0 h1
  | false =>
  cases h2 : Lib.hasPrefix s.data.toList [60, 33, 45, 45] with
  | true => have e : rawF s = upToF s 4 [45, 45, 62] := by unfold rawF; rw [h0, h1, if_neg (by simp), if_neg (by simp), if_pos h2]
            rw [e]; exact Raw_2 s w hM hs hw h0 h1 h2
  | false =>
  cases h3 : Lib.hasPrefix s.data.toList [60, 63] with
  | true => have e : rawF s = upToF s 2 [63, 62] := by unfold rawF; rw [h0, h1, h2, if_neg (by simp), if_neg (by simp), if_neg (by simp), if_pos h3]
            rw [e]; exact Raw_3 s w hM hs hw h0 h1 h2 h3
  | false =>
  cases h4 : Lib.hasPrefix s.data.toList [60, 33, 91, 67, 68, 65, 84, 65, 91] with
  | true => have e : rawF s = upToF s 9 [93, 93, 62] := by unfold rawF; rw [h0, h1, h2, h3, if_neg (by simp), if_neg (by simp), if_neg (by simp), if_neg (by simp), if_pos h4]
            rw [e]; exact Raw_4 s w hM hs hw h0 h1 h2 h3 h4
  | false =>
  cases hd : declF s with
  | true => have e : rawF s = upToF s 3 [62] := by unfold rawF; rw [h0, h1, h2, h3, h4, if_neg (by simp), if_neg (by simp), if_neg (by simp), if_neg (by simp), if_neg (by simp), if_pos hd]
            rw [e]; exact Raw_5 s w hM hs hw h0 h1 h2 h3 h4 hd
  | false => have e : rawF s = openN s := by unfold rawF; rw [h0, h1, h2, h3, h4, hd]; rfl
             rw [e]; exact Raw_6 s w hM hs hw h0 h1 h2 h3 h4 hd

end Go.Proofs.YtjaidphlphncjaaDoor
