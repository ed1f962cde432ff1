/- Walk: mark.Rule. -/
import Derived.Test.YtngikakigkfbnaaDoorMarkHead
import Derived.Test.YtngikakigkfbnaaDoorMarkPlain3
namespace Go.Proofs.YtngikakigkfbnaaDoor
set_option linter.unusedVariables false
set_option linter.unusedSimpArgs false
open Go Go.RowKit Go.Lib

set_option maxRecDepth 100000 in
set_option maxHeartbeats 1000000 in
theorem Rule_star (s : ByteArray) (w : World) (hs : s.size ≤ 1000000) (hT : Tabs w) (hp : Lib.hasPrefix s.data.toList [42] = true) :
    Calls Tryd.prog 9 #[.string s] w fun e w' => e = .returned (.bool (ruleOf s 42)) ∧ Below w.heap.size w w' := by
  have HT := Lib.hid hT
  have hcl : (cutL s ⟨#[42, 32, 9]⟩).size ≤ s.size := by rw [cutL_size]; omega
  clear hT
  go_enter Tryd.func9, Tryd.ntmps9
  go_wp2_with fail
  refine wp_loop_rounds 3 ?_
  rw [rounds_succ]
  go_wp2_with fail
  refine (Tryd.strings_HasPrefix s ⟨#[42]⟩ _).mono ?_
  rintro e w1 ⟨rfl, rfl⟩
  rw [show (ByteArray.mk #[42]).data.toList = [42] from rfl, hp]
  go_wp2_with fail
  have hcat : (ByteArray.mk #[42] ++ ByteArray.mk #[32, 9]) = ⟨#[42, 32, 9]⟩ := by decide
  rw [hcat]
  have hB0 := (Below.refl w.heap.size w).alloc (Nat.le_refl _) (Obj.cells #[Value.string { data := #[42] }, Value.string { data := #[45] }, Value.string { data := #[95] }] 9)
  generalize w.alloc (Obj.cells #[Value.string { data := #[42] }, Value.string { data := #[45] }, Value.string { data := #[95] }] 9) = w2 at *
  refine (markCutLeft_calls s ⟨#[42, 32, 9]⟩ w2 hs (by decide) (ascii_cb 42 (by decide))).mono ?_
  rintro e w3 ⟨rfl, b1⟩
  have hB1 := hB0.trans (b1.mono hB0.size)
  clear b1
  go_wp2_with fail
  refine (markCutRight_calls _ ⟨#[42, 32, 9]⟩ w3 (by omega) (by decide) (ascii_cb 42 (by decide)) (Tabs.below HT.out hB1)).mono ?_
  rintro e w4 ⟨rfl, b1⟩
  have hB2 := hB1.trans (b1.mono hB1.size)
  clear b1
  cases hz : (trimR (cutL s ⟨#[42, 32, 9]⟩) ⟨#[42, 32, 9]⟩).toList.isEmpty with
  | true =>
    go_wp2_with fail
    refine (Tryd.strings_Count_one s 42 _).mono ?_
    rintro e w5 ⟨rfl, rfl⟩
    go_wp2_with fail
    go_ret
    exact ⟨ret_bool (by unfold ruleOf; rw [hz]; rfl), hB2⟩
  | false =>
    go_wp2_with fail
    go_ret
    exact ⟨ret_bool (by unfold ruleOf; rw [hz]; rfl), hB2⟩

set_option maxRecDepth 100000 in
set_option maxHeartbeats 1000000 in
theorem Rule_dash (s : ByteArray) (w : World) (hs : s.size ≤ 1000000) (hT : Tabs w) (hp1 : Lib.hasPrefix s.data.toList [42] = false) (hp : Lib.hasPrefix s.data.toList [45] = true) :
    Calls Tryd.prog 9 #[.string s] w fun e w' => e = .returned (.bool (ruleOf s 45)) ∧ Below w.heap.size w w' := by
  have HT := Lib.hid hT
  have hcl : (cutL s ⟨#[45, 32, 9]⟩).size ≤ s.size := by rw [cutL_size]; omega
  clear hT
  go_enter Tryd.func9, Tryd.ntmps9
  go_wp2_with fail
  refine wp_loop_rounds 3 ?_
  rw [rounds_succ]
  go_wp2_with fail
  refine (Tryd.strings_HasPrefix s ⟨#[42]⟩ _).mono ?_
  rintro e w1 ⟨rfl, rfl⟩
  rw [show (ByteArray.mk #[42]).data.toList = [42] from rfl, hp1]
  have hB0 := (Below.refl w.heap.size w).alloc (Nat.le_refl _) (Obj.cells #[Value.string { data := #[42] }, Value.string { data := #[45] }, Value.string { data := #[95] }] 9)
  have K := heap_alloc_new w (Obj.cells #[Value.string { data := #[42] }, Value.string { data := #[45] }, Value.string { data := #[95] }] 9)
  generalize w.alloc (Obj.cells #[Value.string { data := #[42] }, Value.string { data := #[45] }, Value.string { data := #[95] }] 9) = w2 at *
  have k1 := blk_cell K 1
  have kz := blk_lt K
  simp at k1
  clear K
  go_wp2_with fail
  rw [rounds_succ]
  go_wp2_with fail
  refine (Tryd.strings_HasPrefix s ⟨#[45]⟩ _).mono ?_
  rintro e w1 ⟨rfl, rfl⟩
  rw [show (ByteArray.mk #[45]).data.toList = [45] from rfl, hp]
  go_wp2_with fail
  have hcat : (ByteArray.mk #[45] ++ ByteArray.mk #[32, 9]) = ⟨#[45, 32, 9]⟩ := by decide
  rw [hcat]
  refine (markCutLeft_calls s ⟨#[45, 32, 9]⟩ _ hs (by decide) (ascii_cb 45 (by decide))).mono ?_
  rintro e w3 ⟨rfl, b1⟩
  have hB1 := hB0.trans (b1.mono hB0.size)
  clear b1
  go_wp2_with fail
  refine (markCutRight_calls _ ⟨#[45, 32, 9]⟩ w3 (by omega) (by decide) (ascii_cb 45 (by decide)) (Tabs.below HT.out hB1)).mono ?_
  rintro e w4 ⟨rfl, b1⟩
  have hB2 := hB1.trans (b1.mono hB1.size)
  clear b1
  cases hz : (trimR (cutL s ⟨#[45, 32, 9]⟩) ⟨#[45, 32, 9]⟩).toList.isEmpty with
  | true =>
    go_wp2_with fail
    refine (Tryd.strings_Count_one s 45 _).mono ?_
    rintro e w5 ⟨rfl, rfl⟩
    go_wp2_with fail
    go_ret
    exact ⟨ret_bool (by unfold ruleOf; rw [hz]; rfl), hB2⟩
  | false =>
    go_wp2_with fail
    go_ret
    exact ⟨ret_bool (by unfold ruleOf; rw [hz]; rfl), hB2⟩

set_option maxRecDepth 100000 in
set_option maxHeartbeats 1000000 in
theorem Rule_low (s : ByteArray) (w : World) (hs : s.size ≤ 1000000) (hT : Tabs w) (hp1 : Lib.hasPrefix s.data.toList [42] = false) (hp2 : Lib.hasPrefix s.data.toList [45] = false) (hp : Lib.hasPrefix s.data.toList [95] = true) :
    Calls Tryd.prog 9 #[.string s] w fun e w' => e = .returned (.bool (ruleOf s 95)) ∧ Below w.heap.size w w' := by
  have HT := Lib.hid hT
  have hcl : (cutL s ⟨#[95, 32, 9]⟩).size ≤ s.size := by rw [cutL_size]; omega
  clear hT
  go_enter Tryd.func9, Tryd.ntmps9
  go_wp2_with fail
  refine wp_loop_rounds 3 ?_
  rw [rounds_succ]
  go_wp2_with fail
  refine (Tryd.strings_HasPrefix s ⟨#[42]⟩ _).mono ?_
  rintro e w1 ⟨rfl, rfl⟩
  rw [show (ByteArray.mk #[42]).data.toList = [42] from rfl, hp1]
  have hB0 := (Below.refl w.heap.size w).alloc (Nat.le_refl _) (Obj.cells #[Value.string { data := #[42] }, Value.string { data := #[45] }, Value.string { data := #[95] }] 9)
  have K := heap_alloc_new w (Obj.cells #[Value.string { data := #[42] }, Value.string { data := #[45] }, Value.string { data := #[95] }] 9)
  generalize w.alloc (Obj.cells #[Value.string { data := #[42] }, Value.string { data := #[45] }, Value.string { data := #[95] }] 9) = w2 at *
  have k1 := blk_cell K 1
  have k2 := blk_cell K 2
  have kz := blk_lt K
  simp at k1 k2
  clear K
  go_wp2_with fail
  rw [rounds_succ]
  go_wp2_with fail
  refine (Tryd.strings_HasPrefix s ⟨#[45]⟩ _).mono ?_
  rintro e w1 ⟨rfl, rfl⟩
  rw [show (ByteArray.mk #[45]).data.toList = [45] from rfl, hp2]
  go_wp2_with fail
  rw [rounds_succ]
  go_wp2_with fail
  refine (Tryd.strings_HasPrefix s ⟨#[95]⟩ _).mono ?_
  rintro e w1 ⟨rfl, rfl⟩
  rw [show (ByteArray.mk #[95]).data.toList = [95] from rfl, hp]
  go_wp2_with fail
  have hcat : (ByteArray.mk #[95] ++ ByteArray.mk #[32, 9]) = ⟨#[95, 32, 9]⟩ := by decide
  rw [hcat]
  refine (markCutLeft_calls s ⟨#[95, 32, 9]⟩ _ hs (by decide) (ascii_cb 95 (by decide))).mono ?_
  rintro e w3 ⟨rfl, b1⟩
  have hB1 := hB0.trans (b1.mono hB0.size)
  clear b1
  go_wp2_with fail
  refine (markCutRight_calls _ ⟨#[95, 32, 9]⟩ w3 (by omega) (by decide) (ascii_cb 95 (by decide)) (Tabs.below HT.out hB1)).mono ?_
  rintro e w4 ⟨rfl, b1⟩
  have hB2 := hB1.trans (b1.mono hB1.size)
  clear b1
  cases hz : (trimR (cutL s ⟨#[95, 32, 9]⟩) ⟨#[95, 32, 9]⟩).toList.isEmpty with
  | true =>
    go_wp2_with fail
    refine (Tryd.strings_Count_one s 95 _).mono ?_
    rintro e w5 ⟨rfl, rfl⟩
    go_wp2_with fail
    go_ret
    exact ⟨ret_bool (by unfold ruleOf; rw [hz]; rfl), hB2⟩
  | false =>
    go_wp2_with fail
    go_ret
    exact ⟨ret_bool (by unfold ruleOf; rw [hz]; rfl), hB2⟩

set_option maxRecDepth 100000 in
set_option maxHeartbeats 1000000 in
theorem Rule_none (s : ByteArray) (w : World) (hs : s.size ≤ 1000000) (hT : Tabs w) (hp1 : Lib.hasPrefix s.data.toList [42] = false) (hp2 : Lib.hasPrefix s.data.toList [45] = false) (hp : Lib.hasPrefix s.data.toList [95] = false) :
    Calls Tryd.prog 9 #[.string s] w fun e w' => e = .returned (.bool false) ∧ Below w.heap.size w w' := by
  clear hT
  go_enter Tryd.func9, Tryd.ntmps9
  go_wp2_with fail
  refine wp_loop_rounds 4 ?_
  rw [rounds_succ]
  go_wp2_with fail
  refine (Tryd.strings_HasPrefix s ⟨#[42]⟩ _).mono ?_
  rintro e w1 ⟨rfl, rfl⟩
  rw [show (ByteArray.mk #[42]).data.toList = [42] from rfl, hp1]
  have hB0 := (Below.refl w.heap.size w).alloc (Nat.le_refl _) (Obj.cells #[Value.string { data := #[42] }, Value.string { data := #[45] }, Value.string { data := #[95] }] 9)
  have K := heap_alloc_new w (Obj.cells #[Value.string { data := #[42] }, Value.string { data := #[45] }, Value.string { data := #[95] }] 9)
  generalize w.alloc (Obj.cells #[Value.string { data := #[42] }, Value.string { data := #[45] }, Value.string { data := #[95] }] 9) = w2 at *
  have k1 := blk_cell K 1
  have k2 := blk_cell K 2
  have kz := blk_lt K
  simp at k1 k2
  clear K
  go_wp2_with fail
  rw [rounds_succ]
  go_wp2_with fail
  refine (Tryd.strings_HasPrefix s ⟨#[45]⟩ _).mono ?_
  rintro e w1 ⟨rfl, rfl⟩
  rw [show (ByteArray.mk #[45]).data.toList = [45] from rfl, hp2]
  go_wp2_with fail
  rw [rounds_succ]
  go_wp2_with fail
  refine (Tryd.strings_HasPrefix s ⟨#[95]⟩ _).mono ?_
  rintro e w1 ⟨rfl, rfl⟩
  rw [show (ByteArray.mk #[95]).data.toList = [95] from rfl, hp]
  go_wp2_with fail
  rw [rounds_succ]
  go_wp2_with fail
  go_ret
  exact ⟨rfl, hB0⟩

theorem Rule_calls (s : ByteArray) (w : World) (hs : s.size ≤ 1000000) (hT : Tabs w) :
    Calls Tryd.prog 9 #[.string s] w fun e w' => e = .returned (.bool (ruleF s)) ∧ Below w.heap.size w w' := by
  cases h1 : Lib.hasPrefix s.data.toList [42] with
  | true => have : ruleF s = ruleOf s 42 := by unfold ruleF; rw [if_pos h1]
            rw [this]; exact Rule_star s w hs hT h1
  | false =>
    cases h2 : Lib.hasPrefix s.data.toList [45] with
    | true => have : ruleF s = ruleOf s 45 := by unfold ruleF; rw [h1, if_neg (by simp), if_pos h2]
              rw [this]; exact Rule_dash s w hs hT h1 h2
    | false =>
      cases h3 : Lib.hasPrefix s.data.toList [95] with
      | true => have : ruleF s = ruleOf s 95 := by unfold ruleF; rw [h1, h2, if_neg (by simp), if_neg (by simp), if_pos h3]
                rw [this]; exact Rule_low s w hs hT h1 h2 h3
      | false => have : ruleF s = false := by unfold ruleF; rw [h1, h2, h3]; rfl
                 rw [this]; exact Rule_none s w hs hT h1 h2 h3

end Go.Proofs.YtngikakigkfbnaaDoor
