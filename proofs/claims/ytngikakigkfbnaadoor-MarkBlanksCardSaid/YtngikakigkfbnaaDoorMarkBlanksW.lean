/- Walk: the law MarkBlanks. -/
import Derived.Test.YtngikakigkfbnaaDoorAlive05
import Derived.Test.YtngikakigkfbnaaDoorMarkBlanksPlain
namespace Go.Proofs.YtngikakigkfbnaaDoor
set_option linter.unusedVariables false
set_option linter.unusedSimpArgs false
open Go Go.RowKit Go.Lib

theorem t_fence (s t : ByteArray) (ht : t.data.toList = s.data.toList ++ tailB) : fenceF t = fenceF s := by
  have h1 := t_lead s t ht ⟨#[96]⟩ (by decide)
  have h2 := t_lead s t ht ⟨#[126]⟩ (by decide)
  have e1 : infoOf t 96 = infoOf s 96 := t_info s t ht 96 h1
  have e2 : infoOf t 126 = infoOf s 126 := t_info s t ht 126 h2
  unfold fenceF
  rw [h1, h2, e1, e2]

theorem headFrom_bd (s : ByteArray) : (headF s).2.1 ≤ (headF s).2.2 ∧ (headF s).2.2 ≤ s.size := by
  cases h : headIs s with
  | false => rw [headF_no s h]; exact ⟨Nat.le_refl _, Nat.zero_le _⟩
  | true => rw [headF_yes s h]; exact ⟨by simp, headC_le s⟩

theorem MarkBlanks_out (s : ByteArray) (m n : Int) (w : World) (hT : Tabs w) (h : 50000 < s.size ∨ (s.size ≤ 50000 ∧ (s.size = 0 ∨ 0 < s.size ∧ (m = 32 ∨ m ≠ 32 ∧ m = 9)))) :
    Calls Tryd.prog 7 #[.string s, .int .u8 m, .int .i64 n] w fun e w' => e = .returned (.bool true) ∧ Below w.heap.size w w' := by
  have hc : decide ((50000 : Int) < (s.size : Int)) = true ∨ decide ((50000 : Int) < (s.size : Int)) = false ∧ (s.toList.isEmpty = true ∨ s.toList.isEmpty = false ∧ ((m == 32) = true ∨ (m == 32) = false ∧ (m == 9) = true)) := by
    rcases h with h | ⟨h, h0 | ⟨h0, h1 | ⟨h1, h2⟩⟩⟩
    · exact Or.inl (decide_eq_true (by omega))
    · exact Or.inr ⟨decide_eq_false (by omega), Or.inl (size_isEmpty h0)⟩
    · exact Or.inr ⟨decide_eq_false (by omega), Or.inr ⟨toList_ne h0, Or.inl (by simpa using h1)⟩⟩
    · exact Or.inr ⟨decide_eq_false (by omega), Or.inr ⟨toList_ne h0, Or.inr ⟨by simpa using h1, by simpa using h2⟩⟩⟩
  clear h
  go_enter Tryd.func7, Tryd.ntmps7
  go_wp2_with fail
  refine (alive05_calls _ hT).mono ?_
  rintro e w1 ⟨rfl, h1⟩
  clear hT
  rcases hc with hc | ⟨hc, hc1 | ⟨hc1, hc2 | ⟨hc2, hc3⟩⟩⟩
  all_goals
    go_wp2_with fail
    go_ret
    exact ⟨rfl, h1⟩

set_option maxRecDepth 100000 in
set_option maxHeartbeats 1000000 in
theorem MarkBlanks_in (s : ByteArray) (m n : Int) (c : UInt8) (hm : (c.toNat : Int) = m) (w : World) (hT : Tabs w) (hs : s.size ≤ 50000) (h0 : 0 < s.size) (h1 : m ≠ 32) (h2 : m ≠ 9) :
    Calls Tryd.prog 7 #[.string s, .int .u8 m, .int .i64 n] w fun e w' => e = .returned (.bool true) ∧ Below w.heap.size w w' := by
  have HT := Lib.hid hT
  have hc : blankU c = false := by
    rw [blankU_i, hm]
    have e1 : (m == 32) = false := by simpa using h1
    have e2 : (m == 9) = false := by simpa using h2
    rw [e1, e2]; rfl
  have ht : (s ++ ByteArray.mk #[32, 9, 32]).data.toList = s.data.toList ++ tailB := by simp [tailB]
  have hz := t_size _ _ ht
  have p1 := fun w => Item_calls s w (by omega)
  have p2 := fun w => Item_calls (s ++ ByteArray.mk #[32, 9, 32]) w (by omega)
  rw [t_item _ _ ht] at p2
  have p3 := fun w => Fence_calls s w (by omega)
  have p4 := fun w => Fence_calls (s ++ ByteArray.mk #[32, 9, 32]) w (by omega)
  rw [t_fence _ _ ht] at p4
  have p5 := fun w => Head_calls s w (by omega)
  have p6 := fun w => Head_calls (s ++ ByteArray.mk #[32, 9, 32]) w (by omega)
  obtain ⟨g1, g2, g3⟩ := t_head _ _ ht
  rw [g1, g2] at p6
  have p7 := fun w hT => Rule_calls s w (by omega) hT
  have p8 := fun w hT => Rule_calls (s ++ ByteArray.mk #[32, 9, 32]) w (by omega) hT
  rw [t_rule _ _ ht h0] at p8
  have p9 := fun w => Under_calls s w (by omega)
  have p10 := fun w => Under_calls (s ++ ByteArray.mk #[32, 9, 32]) w (by omega)
  rw [t_under _ _ ht] at p10
  have p11 := fun w => Quote_calls s w
  have p12 := fun w => Quote_calls (s ++ ByteArray.mk #[32, 9, 32]) w
  rw [t_pre _ _ ht h0] at p12
  have p13 := fun w => Closes_calls s c m hm n w (by omega)
  have p14 := fun w => Closes_calls (s ++ ByteArray.mk #[32, 9, 32]) c m hm n w (by omega)
  have hcl : closesF (s ++ ByteArray.mk #[32, 9, 32]) c n = closesF s c n := t_closes _ _ ht c n hc
  rw [hcl] at p14
  have l1 := headFrom_bd s
  have l2 := headFrom_bd (s ++ ByteArray.mk #[32, 9, 32])
  rw [g2, hz] at l2
  clear g1 g2 hcl ht hT
  generalize (headF (s ++ ByteArray.mk #[32, 9, 32])).2.1 = f' at *
  generalize headF s = hd at *
  obtain ⟨lv, f, g⟩ := hd
  generalize itemF s = it at *
  obtain ⟨i1, i2, i3⟩ := it
  generalize fenceF s = fe at *
  obtain ⟨q1, q2, q3⟩ := fe
  generalize ruleF s = ru at *
  generalize underF s = un at *
  generalize closesF s c n = cl at *
  generalize Lib.hasPrefix s.data.toList [62] = qu at *
  have d1 : decide ((50000 : Int) < (s.size : Int)) = false := decide_eq_false (by omega)
  have hne := toList_ne h0
  have e1 : (m == 32) = false := by simpa using h1
  have e2 : (m == 9) = false := by simpa using h2
  clear h1 h2 hc hm hz
  simp only [] at l1 l2
  have dz4 : Hid (((g : Int) - (f : Int) == (f' : Int) + ((g - f : Nat) : Int) - (f' : Int)) = true) := by show _ = _; simp; omega
  have dz1 := IntWalk.i64_in ((g : Int) - (f : Int)) (by omega)
  have dz2 := IntWalk.i64_in (((f' + (g - f) : Nat) : Int) - (f' : Int)) (by omega)
  have dz3 : (((g : Int) - (f : Int)) == (((f' + (g - f) : Nat) : Int) - (f' : Int))) = true := by simp; omega
  go_enter Tryd.func7, Tryd.ntmps7
  go_wp2_with fail
  refine (alive05_calls _ HT.out).mono ?_
  rintro e w1 ⟨rfl, b1⟩
  go_wp2_with fail
  refine (p1 _).mono ?_
  rintro e w2 ⟨rfl, b2⟩
  replace b1 := b1.trans (b2.mono b1.size)
  clear b2 p1
  go_wp2_with fail
  refine (p2 _).mono ?_
  rintro e w2 ⟨rfl, b2⟩
  replace b1 := b1.trans (b2.mono b1.size)
  clear b2 p2
  go_wp2_with fail
  refine (p3 _).mono ?_
  rintro e w2 ⟨rfl, b2⟩
  replace b1 := b1.trans (b2.mono b1.size)
  clear b2 p3
  go_wp2_with fail
  refine (p4 _).mono ?_
  rintro e w2 ⟨rfl, b2⟩
  replace b1 := b1.trans (b2.mono b1.size)
  clear b2 p4
  go_wp2_with fail
  refine (p5 _).mono ?_
  rintro e w2 ⟨rfl, b2⟩
  replace b1 := b1.trans (b2.mono b1.size)
  clear b2 p5
  go_wp2_with fail
  refine (p6 _).mono ?_
  rintro e w2 ⟨rfl, b2⟩
  replace b1 := b1.trans (b2.mono b1.size)
  clear b2 p6
  go_wp2_with fail
  refine (p7 _ (HT.out.below b1)).mono ?_
  rintro e w2 ⟨rfl, b2⟩
  replace b1 := b1.trans (b2.mono b1.size)
  clear b2 p7
  go_wp2_with fail
  refine (p8 _ (HT.out.below b1)).mono ?_
  rintro e w2 ⟨rfl, b2⟩
  replace b1 := b1.trans (b2.mono b1.size)
  clear b2 p8
  go_wp2_with fail
  refine (p9 _).mono ?_
  rintro e w2 ⟨rfl, b2⟩
  replace b1 := b1.trans (b2.mono b1.size)
  clear b2 p9
  go_wp2_with fail
  refine (p10 _).mono ?_
  rintro e w2 ⟨rfl, b2⟩
  replace b1 := b1.trans (b2.mono b1.size)
  clear b2 p10
  go_wp2_with fail
  refine (p11 _).mono ?_
  rintro e w2 ⟨rfl, b2⟩
  replace b1 := b1.trans (b2.mono b1.size)
  clear b2 p11
  go_wp2_with fail
  refine (p12 _).mono ?_
  rintro e w2 ⟨rfl, b2⟩
  replace b1 := b1.trans (b2.mono b1.size)
  clear b2 p12
  go_wp2_with fail
  refine (p13 _).mono ?_
  rintro e w2 ⟨rfl, b2⟩
  replace b1 := b1.trans (b2.mono b1.size)
  clear b2 p13
  go_wp2_with fail
  refine (p14 _).mono ?_
  rintro e w2 ⟨rfl, b2⟩
  replace b1 := b1.trans (b2.mono b1.size)
  clear b2 p14
  go_wp2_with fail
  go_ret
  exact ⟨ret_bool dz4.out, b1⟩

theorem MarkBlanks_walk (s : ByteArray) (m n : Int) (hm : 0 ≤ m ∧ m ≤ 255) (w : World) (hT : Tabs w) :
    Calls Tryd.prog 7 #[.string s, .int .u8 m, .int .i64 n] w fun e w' => e = .returned (.bool true) ∧ Below w.heap.size w w' := by
  by_cases hs : s.size ≤ 50000
  · by_cases h0 : 0 < s.size
    · by_cases h1 : m = 32
      · exact MarkBlanks_out s m n w hT (Or.inr ⟨hs, Or.inr ⟨h0, Or.inl h1⟩⟩)
      · by_cases h2 : m = 9
        · exact MarkBlanks_out s m n w hT (Or.inr ⟨hs, Or.inr ⟨h0, Or.inr ⟨h1, h2⟩⟩⟩)
        · exact MarkBlanks_in s m n (UInt8.ofNat m.toNat) (by simp; omega) w hT hs h0 h1 h2
    · exact MarkBlanks_out s m n w hT (Or.inr ⟨hs, Or.inl (by omega)⟩)
  · exact MarkBlanks_out s m n w hT (Or.inl (by omega))

end Go.Proofs.YtngikakigkfbnaaDoor
