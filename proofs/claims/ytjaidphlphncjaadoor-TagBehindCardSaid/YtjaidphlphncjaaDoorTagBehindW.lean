/- Walk: the law TagBehind. -/
import Derived.Test.YtjaidphlphncjaaDoorAlive06
import Derived.Test.YtjaidphlphncjaaDoorTagBehindRaw
import Derived.Laws.Concat
namespace Go.Proofs.YtjaidphlphncjaaDoor
set_option linter.unusedVariables false
set_option linter.unusedSimpArgs false
open Go Go.RowKit Go.Lib

theorem TagBehind_out (s more : ByteArray) (w : World) (hE : Env w) (h : 20000 < s.size ∨ s.size ≤ 20000 ∧ 20000 < more.size) :
    Calls Tryd.prog 5 #[.string s, .string more] w fun e w' => e = .returned (.bool true) ∧ Below w.heap.size w w' := by
  have hc : decide ((20000 : Int) < (s.size : Int)) = true ∨ decide ((20000 : Int) < (s.size : Int)) = false ∧ decide ((20000 : Int) < (more.size : Int)) = true := by
    rcases h with h | ⟨h, h2⟩
    · exact Or.inl (decide_eq_true (by omega))
    · exact Or.inr ⟨decide_eq_false (by omega), decide_eq_true (by omega)⟩
  clear h
  go_enter Tryd.func5, Tryd.ntmps5
  go_wp2_with fail
  refine (alive06_calls _ hE).mono ?_
  rintro e w1 ⟨rfl, h1⟩
  clear hE
  rcases hc with hc | ⟨hc, hc2⟩
  all_goals
    go_wp2_with fail
    go_ret
    exact ⟨rfl, h1⟩

theorem TagBehind_zero (s more : ByteArray) (w : World) (hE : Env w) (hs : s.size ≤ 20000) (hm : more.size ≤ 20000) (hn : rawF s = 0) :
    Calls Tryd.prog 5 #[.string s, .string more] w fun e w' => e = .returned (.bool true) ∧ Below w.heap.size w w' := by
  have HE := Lib.hid hE
  have d1 : decide ((20000 : Int) < (s.size : Int)) = false := decide_eq_false (by omega)
  have d2 : decide ((20000 : Int) < (more.size : Int)) = false := decide_eq_false (by omega)
  have ho : openN s = 0 := by rcases open_raw s with h | h <;> omega
  have q1 := fun w hM hw => Raw_calls s w hM (by omega) hw
  have q2 := fun w hM hw => Open_calls s w hM (by omega) hw
  rw [hn] at q1
  rw [ho] at q2
  clear hE ho hn
  go_enter Tryd.func5, Tryd.ntmps5
  go_wp2_with fail
  refine (alive06_calls _ HE.out).mono ?_
  rintro e w1 ⟨rfl, b1⟩
  have E1 := HE.out.below b1
  go_wp2_with fail
  refine (q1 _ E1.2.1 E1.2.2).mono ?_
  rintro e w2 ⟨rfl, b2⟩
  replace b1 := b1.trans (b2.mono b1.size)
  clear b2 E1 q1
  have E1 := HE.out.below b1
  go_wp2_with fail
  refine (q2 _ E1.2.1 E1.2.2).mono ?_
  rintro e w2 ⟨rfl, b2⟩
  replace b1 := b1.trans (b2.mono b1.size)
  clear b2 E1 q2
  go_wp2_with fail
  go_ret
  exact ⟨rfl, b1⟩

set_option maxHeartbeats 2000000 in
set_option maxRecDepth 100000 in
theorem TagBehind_in (s more : ByteArray) (w : World) (hE : Env w) (hs : s.size ≤ 20000) (hm : more.size ≤ 20000) (n : Nat) (hn : rawF s = n) (h0 : n ≠ 0) :
    Calls Tryd.prog 5 #[.string s, .string more] w fun e w' => e = .returned (.bool true) ∧ Below w.heap.size w w' := by
  have HE := Lib.hid hE
  obtain ⟨n3, nl, b60, b62⟩ := raw_ends s n hn h0
  have z0 := ext_size s 0 n nl
  have z1 := ext_size s 0 (n - 1) (by omega)
  have za : (s.extract 0 n ++ more).size = n + more.size := by rw [ByteArray.size_append, z0]; omega
  have q1 := fun w hM hw => Raw_calls s w hM (by omega) hw
  have q2 := fun w hM hw => Raw_calls (s.extract 0 n ++ more) w hM (by omega) hw
  have q3 := fun w hM hw => Raw_calls (s.extract 0 n) w hM (by omega) hw
  have q4 := fun w hM hw => Raw_calls (s.extract 0 (n - 1)) w hM (by omega) hw
  have q5 := fun w hM hw => Open_calls s w hM (by omega) hw
  rw [hn] at q1
  rw [raw_agree (agree_cut s n nl more) hn h0] at q2
  rw [raw_agree (agree_cut0 s n nl) hn h0] at q3
  have v1 := raw_le (s.extract 0 (n - 1))
  rw [z1] at v1
  have v2 := open_raw s
  rw [hn] at v2
  generalize rawF (s.extract 0 (n - 1)) = v at *
  generalize openN s = o at *
  have i3 : 0 < s.size := by omega
  have i4 : n - 1 < s.size := by omega
  have c1 : ((s[0].toNat : Int) != 60) = false := by rw [← byteU_in s 0 i3, b60]; rfl
  have c2 : ((s[n - 1].toNat : Int) != 62) = false := by rw [← byteU_in s (n - 1) i4, b62]; rfl
  have d1 : decide ((20000 : Int) < (s.size : Int)) = false := decide_eq_false (by omega)
  have d2 : decide ((20000 : Int) < (more.size : Int)) = false := decide_eq_false (by omega)
  have d3 : ((n : Int) == 0) = false := beq_eq_false_iff_ne.2 (by omega)
  have d4 : decide ((n : Int) < 3) = false := decide_eq_false (by omega)
  have d5 : decide ((s.size : Int) < (n : Int)) = false := decide_eq_false (by omega)
  have j0 : (0 : Int) ≤ (n : Int) - 1 := by omega
  have j1 : (n : Int) - 1 < (s.size : Int) := by omega
  have j2 : (n : Int) - 1 ≤ (s.size : Int) := by omega
  have j3 : (n : Int) ≤ (s.size : Int) := by omega
  have jn : ((n : Int) - 1).toNat = n - 1 := by omega
  have w1 := IntWalk.i64_in ((n : Int) - 1) (by omega)
  have cv : ((v : Int) == 0) = true ∨ ((v : Int) == 0) = false ∧ ((v : Int) != (n : Int)) = true := by
    by_cases hv : v = 0
    · left; rw [hv]; rfl
    · right; exact ⟨beq_eq_false_iff_ne.2 (by omega), by simp; omega⟩
  have co : ((o : Int) == 0) = true ∨ ((o : Int) == 0) = false ∧ ((o : Int) == (n : Int)) = true := by
    by_cases ho : o = 0
    · left; rw [ho]; rfl
    · right; exact ⟨beq_eq_false_iff_ne.2 (by omega), beq_iff_eq.2 (by omega)⟩
  clear hE hn h0 b60 b62 z0 z1 za v1 v2
  go_enter Tryd.func5, Tryd.ntmps5
  go_wp2_with fail
  refine (alive06_calls _ HE.out).mono ?_
  rintro e w1 ⟨rfl, b1⟩
  have E1 := HE.out.below b1
  go_wp2_with fail
  refine (q1 _ E1.2.1 E1.2.2).mono ?_
  rintro e w2 ⟨rfl, b2⟩
  replace b1 := b1.trans (b2.mono b1.size)
  clear b2 E1 q1
  have E1 := HE.out.below b1
  go_wp2_with fail
  refine (q2 _ E1.2.1 E1.2.2).mono ?_
  rintro e w2 ⟨rfl, b2⟩
  replace b1 := b1.trans (b2.mono b1.size)
  clear b2 E1 q2
  have E1 := HE.out.below b1
  go_wp2_with fail
  refine (q3 _ E1.2.1 E1.2.2).mono ?_
  rintro e w2 ⟨rfl, b2⟩
  replace b1 := b1.trans (b2.mono b1.size)
  clear b2 E1 q3
  have E1 := HE.out.below b1
  go_wp2_with fail
  refine (q4 _ E1.2.1 E1.2.2).mono ?_
  rintro e w2 ⟨rfl, b2⟩
  replace b1 := b1.trans (b2.mono b1.size)
  clear b2 E1
  rcases cv with cv | ⟨cv, cv2⟩
  · have E1 := HE.out.below b1
    clear q4
    go_wp2_with fail
    refine (q5 _ E1.2.1 E1.2.2).mono ?_
    rintro e w2 ⟨rfl, b2⟩
    replace b1 := b1.trans (b2.mono b1.size)
    clear b2 E1
    rcases co with co | ⟨co, co2⟩
    · go_wp2_with fail
      go_ret
      exact ⟨rfl, b1⟩
    · have E1 := HE.out.below b1
      go_wp2_with fail
      refine (q5 _ E1.2.1 E1.2.2).mono ?_
      rintro e w2 ⟨rfl, b2⟩
      replace b1 := b1.trans (b2.mono b1.size)
      clear b2 E1
      go_wp2_with fail
      go_ret
      exact ⟨rfl, b1⟩
  · have E1 := HE.out.below b1
    go_wp2_with fail
    refine (q4 _ E1.2.1 E1.2.2).mono ?_
    rintro e w2 ⟨rfl, b2⟩
    replace b1 := b1.trans (b2.mono b1.size)
    clear b2 E1
    have E1 := HE.out.below b1
    go_wp2_with fail
    refine (q5 _ E1.2.1 E1.2.2).mono ?_
    rintro e w2 ⟨rfl, b2⟩
    replace b1 := b1.trans (b2.mono b1.size)
    clear b2 E1
    rcases co with co | ⟨co, co2⟩
    · go_wp2_with fail
      go_ret
      exact ⟨rfl, b1⟩
    · have E1 := HE.out.below b1
      go_wp2_with fail
      refine (q5 _ E1.2.1 E1.2.2).mono ?_
      rintro e w2 ⟨rfl, b2⟩
      replace b1 := b1.trans (b2.mono b1.size)
      clear b2 E1
      go_wp2_with fail
      go_ret
      exact ⟨rfl, b1⟩

theorem TagBehind_walk (s more : ByteArray) (w : World) (hE : Env w) :
    Calls Tryd.prog 5 #[.string s, .string more] w fun e w' => e = .returned (.bool true) ∧ Below w.heap.size w w' := by
  by_cases hs : s.size ≤ 20000
  · by_cases hm : more.size ≤ 20000
    · by_cases hn : rawF s = 0
      · exact TagBehind_zero s more w hE hs hm hn
      · exact TagBehind_in s more w hE hs hm _ rfl hn
    · exact TagBehind_out s more w hE (Or.inr ⟨hs, by omega⟩)
  · exact TagBehind_out s more w hE (Or.inl (by omega))

end Go.Proofs.YtjaidphlphncjaaDoor
