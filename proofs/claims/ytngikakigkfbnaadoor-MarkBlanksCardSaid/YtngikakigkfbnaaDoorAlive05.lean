/- Walk: what the laws of layer 5 ask first. -/
import Derived.Test.YtngikakigkfbnaaDoorMarkRule
import Derived.Test.YtngikakigkfbnaaDoorMarkItem
import Derived.Test.YtngikakigkfbnaaDoorMarkFence
import Derived.Test.YtngikakigkfbnaaDoorMarkRefA
namespace Go.Proofs.YtngikakigkfbnaaDoor
set_option linter.unusedVariables false
set_option linter.unusedSimpArgs false
open Go Go.RowKit Go.Lib

theorem al1 : headF ⟨#[35, 35, 32, 97, 32, 98, 32, 35, 35]⟩ = (2, 3, 6) := by kernel_rfl
theorem al2 : fenceF ⟨#[126, 126, 126, 32, 103, 111]⟩ = (126, 3, ⟨#[103, 111]⟩) := by kernel_rfl
theorem al3 : itemF ⟨#[49, 50, 41, 32, 120]⟩ = (41, 12, 3) := by kernel_rfl
theorem al4 : ruleF ⟨#[42, 32, 42, 32, 42]⟩ = true := by kernel_rfl
theorem al5 : underF ⟨#[61, 61, 32]⟩ = 1 := by kernel_rfl
theorem al6 : Lib.hasPrefix (ByteArray.mk #[62]).data.toList [62] = true := by kernel_rfl
theorem al7 : closesF ⟨#[126, 126, 126, 126, 32]⟩ 126 3 = true := by kernel_rfl

set_option maxRecDepth 100000 in
set_option maxHeartbeats 1000000 in
theorem alive05_calls (w : World) (hT : Tabs w) :
    Calls Tryd.prog 8 #[] w fun e w' => e = .returned (.bool true) ∧ Below w.heap.size w w' := by
  have HT := Lib.hid hT
  clear hT
  go_enter Tryd.func8, Tryd.ntmps8
  go_wp2_with fail
  refine (Head_calls ⟨#[35, 35, 32, 97, 32, 98, 32, 35, 35]⟩ _ (by decide)).mono ?_
  rintro e w1 ⟨rfl, b1⟩
  rw [al1]
  go_wp2_with fail
  refine (Fence_calls ⟨#[126, 126, 126, 32, 103, 111]⟩ _ (by decide)).mono ?_
  rintro e w2 ⟨rfl, b2⟩
  replace b1 := b1.trans (b2.mono b1.size)
  clear b2
  rw [al2]
  go_wp2_with fail
  refine (Item_calls ⟨#[49, 50, 41, 32, 120]⟩ _ (by decide)).mono ?_
  rintro e w3 ⟨rfl, b2⟩
  replace b1 := b1.trans (b2.mono b1.size)
  clear b2
  rw [al3]
  go_wp2_with fail
  refine (Rule_calls ⟨#[42, 32, 42, 32, 42]⟩ _ (by decide) (HT.out.below b1)).mono ?_
  rintro e w4 ⟨rfl, b2⟩
  replace b1 := b1.trans (b2.mono b1.size)
  clear b2
  rw [al4]
  go_wp2_with fail
  refine (Under_calls ⟨#[61, 61, 32]⟩ _ (by decide)).mono ?_
  rintro e w5 ⟨rfl, b2⟩
  replace b1 := b1.trans (b2.mono b1.size)
  clear b2
  rw [al5]
  go_wp2_with fail
  refine (Quote_calls ⟨#[62]⟩ _).mono ?_
  rintro e w6 ⟨rfl, b2⟩
  replace b1 := b1.trans (b2.mono b1.size)
  clear b2
  rw [al6]
  go_wp2_with fail
  refine (Closes_calls ⟨#[126, 126, 126, 126, 32]⟩ 126 126 rfl 3 _ (by decide)).mono ?_
  rintro e w7 ⟨rfl, b2⟩
  replace b1 := b1.trans (b2.mono b1.size)
  clear b2
  rw [al7]
  go_wp2_with fail
  go_ret
  exact ⟨rfl, b1⟩

end Go.Proofs.YtngikakigkfbnaaDoor
