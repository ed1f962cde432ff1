/- Walk: the law TagRaws. -/
import Derived.Test.YtjaidphlphncjaaDoorAlive06
import Derived.Test.YtjaidphlphncjaaDoorTagRefRaw
namespace Go.Proofs.YtjaidphlphncjaaDoor
set_option linter.unusedVariables false
set_option linter.unusedSimpArgs false
open Go Go.RowKit Go.Lib

theorem TagRaws_walk (s : ByteArray) (w : World) (hE : Env w) :
    Calls Tryd.prog 3 #[.string s] w fun e w' => e = .returned (.bool true) ∧ Below w.heap.size w w' := by
  by_cases hs : s.size ≤ 20000
  · have HE := Lib.hid hE
    clear hE
    have d1 : decide ((20000 : Int) < (s.size : Int)) = false := decide_eq_false (by omega)
    go_enter Tryd.func3, Tryd.ntmps3
    go_wp2_with fail
    refine (alive06_calls _ HE.out).mono ?_
    rintro e w1 ⟨rfl, b1⟩
    have E1 := HE.out.below b1
    go_wp2_with fail
    refine (Raw_calls s _ E1.2.1 (by omega) E1.2.2).mono ?_
    rintro e w2 ⟨rfl, b2⟩
    replace b1 := b1.trans (b2.mono b1.size)
    clear b2 E1
    go_wp2_with fail
    refine (refRaw_calls s _ (by omega)).mono ?_
    rintro e w2 ⟨rfl, b2⟩
    replace b1 := b1.trans (b2.mono b1.size)
    clear b2
    have E1 := HE.out.below b1
    go_wp2_with fail
    refine (Open_calls s _ E1.2.1 (by omega) E1.2.2).mono ?_
    rintro e w2 ⟨rfl, b2⟩
    replace b1 := b1.trans (b2.mono b1.size)
    clear b2 E1
    go_wp2_with fail
    refine (refOpen_calls s _ (by omega)).mono ?_
    rintro e w2 ⟨rfl, b2⟩
    replace b1 := b1.trans (b2.mono b1.size)
    clear b2
    go_wp2_with fail
    go_ret
    exact ⟨rfl, b1⟩
  · have d1 : decide ((20000 : Int) < (s.size : Int)) = true := decide_eq_true (by omega)
    go_enter Tryd.func3, Tryd.ntmps3
    go_wp2_with fail
    refine (alive06_calls _ hE).mono ?_
    rintro e w1 ⟨rfl, h1⟩
    go_wp2_with fail
    go_ret
    exact ⟨rfl, h1⟩

end Go.Proofs.YtjaidphlphncjaaDoor
