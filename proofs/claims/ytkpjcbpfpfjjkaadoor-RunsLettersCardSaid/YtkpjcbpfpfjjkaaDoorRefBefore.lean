/- Walk: the reference Before. -/
import Derived.Test.YtkpjcbpfpfjjkaaDoorRefRune
namespace Go.Proofs.YtkpjcbpfpfjjkaaDoor
set_option linter.unusedVariables false
set_option linter.unusedSimpArgs false
open Go Go.RowKit Go.Lib

theorem refBefore_calls (s : ByteArray) (a : Int) (w : World) (hs : s.size ≤ 1000000) :
    Calls Tryd.prog 15 #[.string s, .int .i64 a] w fun e w' => e = .returned (.int .i64 (beforeF s a)) ∧ Below w.heap.size w w' := by
  by_cases h : a < 1 ∨ (s.size : Int) < a
  · have hr : Hid (beforeF s a = -1) := by show _ = _; unfold beforeF; rw [if_pos h]
    have hc : decide (a < 1) = true ∨ decide (a < 1) = false ∧ decide ((s.size : Int) < a) = true := by
      by_cases h0 : a < 1
      · exact Or.inl (by simpa using h0)
      · exact Or.inr ⟨by simpa using h0, by simp; omega⟩
    clear h
    rcases hc with hc | ⟨hc, hc'⟩
    all_goals
      go_enter Tryd.func15, Tryd.ntmps15
      go_wp2_with fail
      go_ret
      exact ⟨by rw [hr.out]; rfl, Below.refl _ _⟩
  · obtain ⟨n, rfl⟩ := Int.eq_ofNat_of_zero_le (show 0 ≤ a by omega)
    have hn0 : 1 ≤ n := by omega
    have hn1 : n ≤ s.size := by omega
    have hr : Hid (beforeF s n = beforeFrom s n (min n 4)) := by show _ = _; unfold beforeF; rw [if_neg (by omega)]; rfl
    have c1 : decide ((n : Int) < 1) = false := by simp; omega
    have c2 : decide (s.size < n) = false := by simp; omega
    clear h
    go_enter Tryd.func15, Tryd.ntmps15
    go_wp2_with fail
    go_loopw [5] (fun i wr => ∃ k : Nat, k ≤ 4 ∧ i = .int .i64 k ∧ Hid (beforeFrom s n (min n 4) = beforeFrom s n (min n k)) ∧ Below w.heap.size w wr) (fun i _ => (RowKit.intOf i).toNat)
    case atStart => exact ⟨4, by omega, by go_num, rfl, Below.refl _ _⟩
    case round =>
      obtain ⟨k, hk4, rfl, hw, hb⟩ := hrel
      cases k with
      | zero =>
        go_wp2_with fail
        go_ret
        exact ⟨by rw [hr.out, hw.out, Nat.min_zero]; rfl, hb⟩
      | succ k =>
        go_wp2_with fail
        refine (refRune_calls s _ _ hs).mono ?_
        rintro e w1 ⟨rfl, hb1⟩
        have hbd := runeF_bd s ((n : Int) - ((k : Int) + 1))
        by_cases hkn : k + 1 ≤ n
        · have hkb : ((k : Int) + 1 ≤ n) := by omega
          have hst := Lib.hid (beforeFrom_step s n k)
          by_cases hq : (runeF s ((n : Int) - ((k : Int) + 1))).2 = (k : Int) + 1
          · have hv : Hid (beforeFrom s n (min n (k + 1)) = (runeF s ((n : Int) - ((k : Int) + 1))).1) := by show _ = _; rw [Nat.min_eq_right hkn, hst.out, if_pos hq]
            have hq' : ((runeF s ((n : Int) - ((k : Int) + 1))).2 == (k : Int) + 1) = true := by simpa using hq
            clear hq
            generalize runeF s ((n : Int) - ((k : Int) + 1)) = q at *
            go_wp2_with fail
            go_ret
            exact ⟨by rw [hr.out, hw.out, hv.out]; rfl, hb.trans (hb1.mono hb.size)⟩
          · have hv : Hid (beforeFrom s n (min n (k + 1)) = beforeFrom s n (min n k)) := by show _ = _; rw [Nat.min_eq_right hkn, hst.out, if_neg hq, Nat.min_eq_right (by omega)]
            have hq' : ((runeF s ((n : Int) - ((k : Int) + 1))).2 == (k : Int) + 1) = false := by simpa using hq
            clear hq
            generalize runeF s ((n : Int) - ((k : Int) + 1)) = q at *
            go_wp2_with fail
            go_roundw
            case rel => exact ⟨k, by omega, by go_num, (by show _ = _; rw [hw.out, hv.out]), hb.trans (hb1.mono hb.size)⟩
            case measure => simp [RowKit.intOf] <;> omega
        · have hkb : ¬ ((k : Int) + 1 ≤ n) := by omega
          have hv : Hid (min n (k + 1) = min n k) := by show _ = _; omega
          generalize runeF s ((n : Int) - ((k : Int) + 1)) = q at *
          go_wp2_with fail
          go_roundw
          case rel => exact ⟨k, by omega, by go_num, (by show _ = _; rw [hw.out, hv.out]), hb.trans (hb1.mono hb.size)⟩
          case measure => simp [RowKit.intOf] <;> omega

end Go.Proofs.YtkpjcbpfpfjjkaaDoor
