/- Walk: alive of stetlaw08. -/
import Derived.Test.YtcpbljhogenjoaaDoorLinkDefine2
import Derived.KernelRfl
namespace Go.Proofs.YtcpbljhogenjoaaDoor
set_option linter.unusedVariables false
set_option linter.unusedSimpArgs false
open Go Go.RowKit Go.Shelf Go.Lib

def aliveS : ByteArray := ⟨#[91, 70, 111, 111, 93, 58, 32, 60, 97, 32, 98, 62, 32, 39, 99, 39, 10, 120]⟩
theorem al1 : defineI aliveS 0 = ⟨⟨#[102, 111, 111]⟩, ⟨#[97, 32, 98]⟩, ⟨#[99]⟩, 0, 16, 17⟩ := by kernel_rfl
theorem al2 : labelI ⟨#[91, 97, 93]⟩ 0 = (⟨#[97]⟩, 3) := by kernel_rfl

set_option maxHeartbeats 2000000 in
set_option maxRecDepth 100000 in
theorem alive08_calls (w : World) (hE : EnvE w) :
    Calls Tryd.prog 5 #[] w fun e w' => e = .returned (.bool true) ∧ Below w.heap.size w w' := by
  have HE := Lib.hid hE
  have hd := fun w hE => Define_calls aliveS 0 w hE (by decide)
  rw [al1] at hd
  have hl := fun w => Label_calls ⟨#[91, 97, 93]⟩ 0 w (by decide)
  rw [al2] at hl
  clear hE
  go_enter Tryd.func5, Tryd.ntmps5
  go_wp2_with fail
  refine (hd _ HE.out).mono ?_
  rintro e w1 ⟨rfl, hB⟩
  simp only [defV]
  go_wp2_with fail
  have hB2 := hB.trans (((Below.refl w1.heap.size w1).alloc (Nat.le_refl _) (.cells #[.string ⟨#[102, 111, 111]⟩, .string ⟨#[97, 32, 98]⟩, .string ⟨#[99]⟩, .int .i64 0, .int .i64 16] 27)).mono hB.size)
  have K := heap_alloc_new w1 (.cells #[.string ⟨#[102, 111, 111]⟩, .string ⟨#[97, 32, 98]⟩, .string ⟨#[99]⟩, .int .i64 0, .int .i64 16] 27)
  generalize w1.alloc (.cells #[.string ⟨#[102, 111, 111]⟩, .string ⟨#[97, 32, 98]⟩, .string ⟨#[99]⟩, .int .i64 0, .int .i64 16] 27) = W at *
  refine (hl _).mono ?_
  rintro e w2 ⟨rfl, hB3⟩
  replace K := below_block hB3 (blk_lt K) K
  have k0 := blk_cell K 0
  have k1 := blk_cell K 1
  have k2 := blk_cell K 2
  have k4 := blk_cell K 4
  simp at k0 k1 k2 k4
  clear K
  go_wp2_with fail
  go_ret
  exact ⟨rfl, hB2.trans (hB3.mono hB2.size)⟩

end Go.Proofs.YtcpbljhogenjoaaDoor
