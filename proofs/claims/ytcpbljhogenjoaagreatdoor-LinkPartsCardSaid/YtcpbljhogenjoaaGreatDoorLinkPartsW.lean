/- Walk: the law LinkParts. -/
import Derived.Test.YtcpbljhogenjoaaGreatDoorAlive08
import Derived.Test.YtcpbljhogenjoaaGreatDoorLink8E
namespace Go.Proofs.YtcpbljhogenjoaaGreatDoor
set_option linter.unusedVariables false
set_option linter.unusedSimpArgs false
open Go Go.RowKit Go.Shelf Go.Lib

theorem str_self (a : ByteArray) : (a.toList == a.toList) = true := by simp

set_option maxHeartbeats 4000000 in
set_option maxRecDepth 100000 in
theorem LinkParts_walk (s : ByteArray) (a : Int) (w : World) (hE : EnvE w) :
    Calls Tryz.prog 3 #[.string s, .int .i64 a] w fun e w' => e = .returned (.bool true) ∧ Below w.heap.size w w' := by
  have HE := Lib.hid hE
  by_cases hs : s.size ≤ 20000
  · have d1 : decide ((20000 : Int) < (s.size : Int)) = false := decide_eq_false (by omega)
    have q1 := fun w => Label_calls s a w (by omega)
    have q2 := fun w => rLabel_calls s a w (by omega)
    have q3 := fun w hE => Dest_calls s a w hE (by omega)
    have q4 := fun w => rDest_calls s a w (by omega)
    have q5 := fun w hE => Title_calls s a w hE (by omega)
    have q6 := fun w => rTitle_calls s a w (by omega)
    generalize (labelI s a).1 = L1 at *
    generalize (labelI s a).2 = L2 at *
    generalize (destI s a).1 = D1 at *
    generalize (destI s a).2 = D2 at *
    generalize (titleI s a).1 = T1 at *
    generalize (titleI s a).2 = T2 at *
    have s1 := str_self L1
    have s2 := str_self D1
    have s3 := str_self T1
    clear hE
    go_enter Tryz.func3, Tryz.ntmps3
    go_wp2_with fail
    refine (alive08_calls _ HE.out).mono ?_
    rintro e w1 ⟨rfl, b1⟩
    go_wp2_with fail
    refine (q1 _).mono ?_
    rintro e w2 ⟨rfl, b2⟩
    replace b1 := b1.trans (b2.mono b1.size)
    clear b2
    go_wp2_with fail
    refine (q2 _).mono ?_
    rintro e w3 ⟨rfl, b2⟩
    replace b1 := b1.trans (b2.mono b1.size)
    clear b2
    go_wp2_with fail
    refine (q3 _ (HE.out.below b1)).mono ?_
    rintro e w4 ⟨rfl, b2⟩
    replace b1 := b1.trans (b2.mono b1.size)
    clear b2
    go_wp2_with fail
    refine (q4 _).mono ?_
    rintro e w5 ⟨rfl, b2⟩
    replace b1 := b1.trans (b2.mono b1.size)
    clear b2
    go_wp2_with fail
    refine (q5 _ (HE.out.below b1)).mono ?_
    rintro e w6 ⟨rfl, b2⟩
    replace b1 := b1.trans (b2.mono b1.size)
    clear b2
    go_wp2_with fail
    refine (q6 _).mono ?_
    rintro e w7 ⟨rfl, b2⟩
    replace b1 := b1.trans (b2.mono b1.size)
    clear b2
    go_wp2_with fail
    go_ret
    exact ⟨rfl, b1⟩
  · have d1 : decide ((20000 : Int) < (s.size : Int)) = true := decide_eq_true (by omega)
    go_enter Tryz.func3, Tryz.ntmps3
    go_wp2_with fail
    refine (alive08_calls _ hE).mono ?_
    rintro e w1 ⟨rfl, h1⟩
    go_wp2_with fail
    go_ret
    exact ⟨rfl, h1⟩

end Go.Proofs.YtcpbljhogenjoaaGreatDoor
