/- Walk: the law MarkHeads. -/
import Derived.Test.YtngikakigkfbnaaDoorAlive05
import Derived.Test.YtngikakigkfbnaaDoorMarkRefHead
namespace Go.Proofs.YtngikakigkfbnaaDoor
set_option linter.unusedVariables false
set_option linter.unusedSimpArgs false
open Go Go.RowKit Go.Lib

theorem MarkHeads_walk (s : ByteArray) (w : World) (hT : Tabs w) :
    Calls Tryd.prog 4 #[.string s] w fun e w' => e = .returned (.bool true) ∧ Below w.heap.size w w' := by
  by_cases hs : s.size ≤ 50000
  · have HT := Lib.hid hT
    clear hT
    have d1 : decide ((50000 : Int) < (s.size : Int)) = false := decide_eq_false (by omega)
    have h1 := fun w => Head_calls s w (by omega)
    have h2 := fun w => refHead_calls s w (by omega)
    generalize headF s = q at *
    obtain ⟨a, b, c⟩ := q
    go_enter Tryd.func4, Tryd.ntmps4
    go_wp2_with fail
    refine (alive05_calls _ HT.out).mono ?_
    rintro e w1 ⟨rfl, b1⟩
    go_wp2_with fail
    refine (h1 _).mono ?_
    rintro e w2 ⟨rfl, b2⟩
    replace b1 := b1.trans (b2.mono b1.size)
    clear b2 h1
    go_wp2_with fail
    refine (h2 _).mono ?_
    rintro e w2 ⟨rfl, b2⟩
    replace b1 := b1.trans (b2.mono b1.size)
    clear b2 h2
    go_wp2_with fail
    go_ret
    exact ⟨rfl, b1⟩
  · have d1 : decide ((50000 : Int) < (s.size : Int)) = true := decide_eq_true (by omega)
    go_enter Tryd.func4, Tryd.ntmps4
    go_wp2_with fail
    refine (alive05_calls _ hT).mono ?_
    rintro e w1 ⟨rfl, h1⟩
    go_wp2_with fail
    go_ret
    exact ⟨rfl, h1⟩

end Go.Proofs.YtngikakigkfbnaaDoor
