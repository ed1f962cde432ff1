/- Walk: the law MarkItems. -/
import Derived.Test.YtngikakigkfbnaaDoorAlive05
import Derived.Test.YtngikakigkfbnaaDoorMarkRefItem
namespace Go.Proofs.YtngikakigkfbnaaDoor
set_option linter.unusedVariables false
set_option linter.unusedSimpArgs false
open Go Go.RowKit Go.Lib

theorem itemF_facts (s : ByteArray) : itemF s = (0, 0, 0) ∨ ∃ a v c : Int, itemF s = (a, v, c) ∧ 1 ≤ c ∧ c ≤ s.size ∧ c ≤ 10 ∧ -1 ≤ v ∧ v < 1000000000 := by
  cases h : itemIs s with
  | false => exact Or.inl (itemF_no s h)
  | true =>
    have hb := itemNum_bd s h
    have h2 := h
    unfold itemIs at h2
    simp only [Bool.and_eq_true, decide_eq_true_eq] at h2
    exact Or.inr ⟨_, _, _, itemF_yes s h, by omega, by omega, by omega, hb.1, hb.2⟩

theorem MarkItems_walk (s : ByteArray) (w : World) (hT : Tabs w) :
    Calls Tryd.prog 5 #[.string s] w fun e w' => e = .returned (.bool true) ∧ Below w.heap.size w w' := by
  by_cases hs : s.size ≤ 50000
  · have HT := Lib.hid hT
    clear hT
    have d1 : decide ((50000 : Int) < (s.size : Int)) = false := decide_eq_false (by omega)
    have h1 := fun w => Item_calls s w (by omega)
    have h2 := fun w => refItem_calls s w (by omega)
    rcases itemF_facts s with hf | ⟨a, v, c, hf, c1, c2, c3, v1, v2⟩
    · rw [hf] at h1 h2
      clear hf
      go_enter Tryd.func5, Tryd.ntmps5
      go_wp2_with fail
      refine (alive05_calls _ HT.out).mono ?_
      rintro e w1 ⟨rfl, b1⟩
      go_wp2_with fail
      refine (h1 _).mono ?_
      rintro e w2 ⟨rfl, b2⟩
      replace b1 := b1.trans (b2.mono b1.size)
      clear b2 h1
      go_wp2_with fail
      refine (h2 _).mono ?_
      rintro e w2 ⟨rfl, b2⟩
      replace b1 := b1.trans (b2.mono b1.size)
      clear b2 h2
      go_wp2_with fail
      go_ret
      exact ⟨rfl, b1⟩
    · rw [hf] at h1 h2
      clear hf
      have e1 : (c == 0) = false := by simp; omega
      have e2 : decide (c ≤ (s.size : Int)) = true := decide_eq_true c2
      have e3 : decide (c ≤ 10) = true := decide_eq_true c3
      have e4 : decide (-1 ≤ v) = true := decide_eq_true v1
      have e5 : decide (v < 1000000000) = true := decide_eq_true v2
      go_enter Tryd.func5, Tryd.ntmps5
      go_wp2_with fail
      refine (alive05_calls _ HT.out).mono ?_
      rintro e w1 ⟨rfl, b1⟩
      go_wp2_with fail
      refine (h1 _).mono ?_
      rintro e w2 ⟨rfl, b2⟩
      replace b1 := b1.trans (b2.mono b1.size)
      clear b2 h1
      go_wp2_with fail
      refine (h2 _).mono ?_
      rintro e w2 ⟨rfl, b2⟩
      replace b1 := b1.trans (b2.mono b1.size)
      clear b2 h2
      go_wp2_with fail
      go_ret
      exact ⟨rfl, b1⟩
  · have d1 : decide ((50000 : Int) < (s.size : Int)) = true := decide_eq_true (by omega)
    go_enter Tryd.func5, Tryd.ntmps5
    go_wp2_with fail
    refine (alive05_calls _ hT).mono ?_
    rintro e w1 ⟨rfl, h1⟩
    go_wp2_with fail
    go_ret
    exact ⟨rfl, h1⟩

end Go.Proofs.YtngikakigkfbnaaDoor
