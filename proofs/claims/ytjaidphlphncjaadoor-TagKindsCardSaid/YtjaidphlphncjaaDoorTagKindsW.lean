/- Walk: the law TagKinds. -/
import Derived.Test.YtjaidphlphncjaaDoorRefKind
namespace Go.Proofs.YtjaidphlphncjaaDoor
set_option linter.unusedVariables false
set_option linter.unusedSimpArgs false
open Go Go.RowKit Go.Lib

theorem TagKinds_walk (s : ByteArray) (kind : Int) (w : World) (hE : Env w) :
    Calls Tryd.prog 4 #[.string s, .int .i64 kind] w fun e w' => e = .returned (.bool true) ∧ Below w.heap.size w w' := by
  by_cases hs : s.size ≤ 20000
  · have HE := Lib.hid hE
    clear hE
    have d1 : decide ((20000 : Int) < (s.size : Int)) = false := decide_eq_false (by omega)
    have q1 := fun w hM hT hw => Kind_calls s w hM hT hw (by omega)
    have q2 := fun w => refKind_calls s w (by omega)
    have q3 := fun w hE => Ends_calls s kind w hE (by omega)
    have q4 := fun w => refEnds_calls s kind w (by omega)
    generalize endsK s.data.toList kind = q at *
    generalize kindF s = n at *
    go_enter Tryd.func4, Tryd.ntmps4
    go_wp2_with fail
    refine (alive06_calls _ HE.out).mono ?_
    rintro e w1 ⟨rfl, b1⟩
    have E1 := HE.out.below b1
    go_wp2_with fail
    refine (q1 _ E1.2.1 E1.1 E1.2.2).mono ?_
    rintro e w2 ⟨rfl, b2⟩
    replace b1 := b1.trans (b2.mono b1.size)
    clear b2 E1
    go_wp2_with fail
    refine (q2 _).mono ?_
    rintro e w2 ⟨rfl, b2⟩
    replace b1 := b1.trans (b2.mono b1.size)
    clear b2
    have E1 := HE.out.below b1
    go_wp2_with fail
    refine (q3 _ E1).mono ?_
    rintro e w2 ⟨rfl, b2⟩
    replace b1 := b1.trans (b2.mono b1.size)
    clear b2 E1
    go_wp2_with fail
    refine (q4 _).mono ?_
    rintro e w2 ⟨rfl, b2⟩
    replace b1 := b1.trans (b2.mono b1.size)
    clear b2
    cases q <;>
    · go_wp2_with fail
      go_ret
      exact ⟨rfl, b1⟩
  · have d1 : decide ((20000 : Int) < (s.size : Int)) = true := decide_eq_true (by omega)
    go_enter Tryd.func4, Tryd.ntmps4
    go_wp2_with fail
    refine (alive06_calls _ hE).mono ?_
    rintro e w1 ⟨rfl, h1⟩
    go_wp2_with fail
    go_ret
    exact ⟨rfl, h1⟩

end Go.Proofs.YtjaidphlphncjaaDoor
