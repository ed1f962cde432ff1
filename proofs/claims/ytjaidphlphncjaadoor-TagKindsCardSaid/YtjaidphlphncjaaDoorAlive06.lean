/- Walks: tag.Ends for the kinds 2 .. 5 and the rest; what the laws of layer 6 ask first. -/
import Derived.Test.YtjaidphlphncjaaDoorTagKind2
namespace Go.Proofs.YtjaidphlphncjaaDoor
set_option linter.unusedVariables false
set_option linter.unusedSimpArgs false
open Go Go.RowKit Go.Lib

set_option maxHeartbeats 2000000 in
set_option maxRecDepth 100000 in
theorem Ends_2 (s : ByteArray) (w : World) (hM : MaxL w) (hw : 0 < w.heap.size) (hs : s.size ≤ 1000000) :
    Calls Tryd.prog 15 #[.string s, .int .i64 2] w fun e w' => e = .returned (.bool (Lib.contains s.data.toList [45, 45, 62])) ∧ Below w.heap.size w w' := by
  have HM := Lib.hid hM
  clear hM
  go_enter Tryd.func15, Tryd.ntmps15
  go_wp2_with fail
  have hB := (Below.refl w.heap.size w).alloc (Nat.le_refl _) (Obj.cells #[Value.string ⟨#[45, 45, 62]⟩, Value.string ⟨#[63, 62]⟩, Value.string ⟨#[62]⟩, Value.string ⟨#[93, 93, 62]⟩] 9)
  generalize w.alloc (Obj.cells #[Value.string ⟨#[45, 45, 62]⟩, Value.string ⟨#[63, 62]⟩, Value.string ⟨#[62]⟩, Value.string ⟨#[93, 93, 62]⟩] 9) = W at *
  obtain ⟨m, hm⟩ := HM.out.below hB hw
  refine (Tryd.strings_Contains s ⟨#[45, 45, 62]⟩ m _ (by omega) hm).mono ?_
  rintro e w1 ⟨rfl, rfl⟩
  go_wp2_with fail
  go_ret
  exact ⟨rfl, hB⟩

set_option maxHeartbeats 2000000 in
set_option maxRecDepth 100000 in
theorem Ends_3 (s : ByteArray) (w : World) (hM : MaxL w) (hw : 0 < w.heap.size) (hs : s.size ≤ 1000000) :
    Calls Tryd.prog 15 #[.string s, .int .i64 3] w fun e w' => e = .returned (.bool (Lib.contains s.data.toList [63, 62])) ∧ Below w.heap.size w w' := by
  have HM := Lib.hid hM
  clear hM
  go_enter Tryd.func15, Tryd.ntmps15
  go_wp2_with fail
  have hB := (Below.refl w.heap.size w).alloc (Nat.le_refl _) (Obj.cells #[Value.string ⟨#[45, 45, 62]⟩, Value.string ⟨#[63, 62]⟩, Value.string ⟨#[62]⟩, Value.string ⟨#[93, 93, 62]⟩] 9)
  generalize w.alloc (Obj.cells #[Value.string ⟨#[45, 45, 62]⟩, Value.string ⟨#[63, 62]⟩, Value.string ⟨#[62]⟩, Value.string ⟨#[93, 93, 62]⟩] 9) = W at *
  obtain ⟨m, hm⟩ := HM.out.below hB hw
  refine (Tryd.strings_Contains s ⟨#[63, 62]⟩ m _ (by omega) hm).mono ?_
  rintro e w1 ⟨rfl, rfl⟩
  go_wp2_with fail
  go_ret
  exact ⟨rfl, hB⟩

set_option maxHeartbeats 2000000 in
set_option maxRecDepth 100000 in
theorem Ends_4 (s : ByteArray) (w : World) (hM : MaxL w) (hw : 0 < w.heap.size) (hs : s.size ≤ 1000000) :
    Calls Tryd.prog 15 #[.string s, .int .i64 4] w fun e w' => e = .returned (.bool (Lib.contains s.data.toList [62])) ∧ Below w.heap.size w w' := by
  have HM := Lib.hid hM
  clear hM
  go_enter Tryd.func15, Tryd.ntmps15
  go_wp2_with fail
  have hB := (Below.refl w.heap.size w).alloc (Nat.le_refl _) (Obj.cells #[Value.string ⟨#[45, 45, 62]⟩, Value.string ⟨#[63, 62]⟩, Value.string ⟨#[62]⟩, Value.string ⟨#[93, 93, 62]⟩] 9)
  generalize w.alloc (Obj.cells #[Value.string ⟨#[45, 45, 62]⟩, Value.string ⟨#[63, 62]⟩, Value.string ⟨#[62]⟩, Value.string ⟨#[93, 93, 62]⟩] 9) = W at *
  obtain ⟨m, hm⟩ := HM.out.below hB hw
  refine (Tryd.strings_Contains s ⟨#[62]⟩ m _ (by omega) hm).mono ?_
  rintro e w1 ⟨rfl, rfl⟩
  go_wp2_with fail
  go_ret
  exact ⟨rfl, hB⟩

set_option maxHeartbeats 2000000 in
set_option maxRecDepth 100000 in
theorem Ends_5 (s : ByteArray) (w : World) (hM : MaxL w) (hw : 0 < w.heap.size) (hs : s.size ≤ 1000000) :
    Calls Tryd.prog 15 #[.string s, .int .i64 5] w fun e w' => e = .returned (.bool (Lib.contains s.data.toList [93, 93, 62])) ∧ Below w.heap.size w w' := by
  have HM := Lib.hid hM
  clear hM
  go_enter Tryd.func15, Tryd.ntmps15
  go_wp2_with fail
  have hB := (Below.refl w.heap.size w).alloc (Nat.le_refl _) (Obj.cells #[Value.string ⟨#[45, 45, 62]⟩, Value.string ⟨#[63, 62]⟩, Value.string ⟨#[62]⟩, Value.string ⟨#[93, 93, 62]⟩] 9)
  generalize w.alloc (Obj.cells #[Value.string ⟨#[45, 45, 62]⟩, Value.string ⟨#[63, 62]⟩, Value.string ⟨#[62]⟩, Value.string ⟨#[93, 93, 62]⟩] 9) = W at *
  obtain ⟨m, hm⟩ := HM.out.below hB hw
  refine (Tryd.strings_Contains s ⟨#[93, 93, 62]⟩ m _ (by omega) hm).mono ?_
  rintro e w1 ⟨rfl, rfl⟩
  go_wp2_with fail
  go_ret
  exact ⟨rfl, hB⟩

theorem al1 : rawF ⟨#[60, 97, 32, 98, 61, 39, 99, 39, 32, 100, 62, 120]⟩ = 11 := by kernel_rfl
theorem al2 : rawF ⟨#[97]⟩ = 0 := by kernel_rfl
theorem al3 : openN ⟨#[60, 47, 97, 32, 62]⟩ = 5 := by kernel_rfl
theorem al4 : kindF ⟨#[60, 47, 100, 105, 118, 62]⟩ = 6 := by kernel_rfl
theorem al5 : kindF ⟨#[60, 98, 62]⟩ = 7 := by kernel_rfl
theorem al6 : kindF ⟨#[60, 98, 62, 120]⟩ = 0 := by kernel_rfl
theorem al7 : Lib.contains (ByteArray.mk #[120, 45, 45, 62]).data.toList [45, 45, 62] = true := by kernel_rfl
theorem al8 : Lib.contains (ByteArray.mk #[120]).data.toList [45, 45, 62] = false := by kernel_rfl

/-- what the walks ask of the world -/
def Env (w : World) : Prop := Tabs w ∧ MaxL w ∧ 0 < w.heap.size
theorem Env.below {w w' : World} (h : Env w) (hb : Below w.heap.size w w') : Env w' :=
  ⟨h.1.below hb, h.2.1.below hb h.2.2, by have := hb.size; have := h.2.2; omega⟩

set_option maxHeartbeats 2000000 in
set_option maxRecDepth 100000 in
theorem alive06_calls (w : World) (hE : Env w) :
    Calls Tryd.prog 8 #[] w fun e w' => e = .returned (.bool true) ∧ Below w.heap.size w w' := by
  have HE := Lib.hid hE
  have b1 := Below.refl w.heap.size w
  clear hE
  go_enter Tryd.func8, Tryd.ntmps8
  go_wp2_with fail
  have E0 := HE.out.below b1
  refine (Raw_calls ⟨#[60, 97, 32, 98, 61, 39, 99, 39, 32, 100, 62, 120]⟩ _ E0.2.1 (by decide) E0.2.2).mono ?_
  rintro e x0 ⟨rfl, b2⟩
  replace b1 := b1.trans (b2.mono b1.size)
  clear b2 E0
  rw [al1]
  go_wp2_with fail
  have E1 := HE.out.below b1
  refine (Raw_calls ⟨#[97]⟩ _ E1.2.1 (by decide) E1.2.2).mono ?_
  rintro e x1 ⟨rfl, b2⟩
  replace b1 := b1.trans (b2.mono b1.size)
  clear b2 E1
  rw [al2]
  go_wp2_with fail
  have E2 := HE.out.below b1
  refine (Open_calls ⟨#[60, 47, 97, 32, 62]⟩ _ E2.2.1 (by decide) E2.2.2).mono ?_
  rintro e x2 ⟨rfl, b2⟩
  replace b1 := b1.trans (b2.mono b1.size)
  clear b2 E2
  rw [al3]
  go_wp2_with fail
  have E3 := HE.out.below b1
  refine (Kind_calls ⟨#[60, 47, 100, 105, 118, 62]⟩ _ E3.2.1 E3.1 E3.2.2 (by decide)).mono ?_
  rintro e x3 ⟨rfl, b2⟩
  replace b1 := b1.trans (b2.mono b1.size)
  clear b2 E3
  rw [al4]
  go_wp2_with fail
  have E4 := HE.out.below b1
  refine (Kind_calls ⟨#[60, 98, 62]⟩ _ E4.2.1 E4.1 E4.2.2 (by decide)).mono ?_
  rintro e x4 ⟨rfl, b2⟩
  replace b1 := b1.trans (b2.mono b1.size)
  clear b2 E4
  rw [al5]
  go_wp2_with fail
  have E5 := HE.out.below b1
  refine (Kind_calls ⟨#[60, 98, 62, 120]⟩ _ E5.2.1 E5.1 E5.2.2 (by decide)).mono ?_
  rintro e x5 ⟨rfl, b2⟩
  replace b1 := b1.trans (b2.mono b1.size)
  clear b2 E5
  rw [al6]
  go_wp2_with fail
  have E6 := HE.out.below b1
  refine (Ends_2 ⟨#[120, 45, 45, 62]⟩ _ E6.2.1 E6.2.2 (by decide)).mono ?_
  rintro e x6 ⟨rfl, b2⟩
  replace b1 := b1.trans (b2.mono b1.size)
  clear b2 E6
  rw [al7]
  go_wp2_with fail
  have E7 := HE.out.below b1
  refine (Ends_2 ⟨#[120]⟩ _ E7.2.1 E7.2.2 (by decide)).mono ?_
  rintro e x7 ⟨rfl, b2⟩
  replace b1 := b1.trans (b2.mono b1.size)
  clear b2 E7
  rw [al8]
  go_wp2_with fail
  go_ret
  exact ⟨rfl, b1⟩

end Go.Proofs.YtjaidphlphncjaaDoor
