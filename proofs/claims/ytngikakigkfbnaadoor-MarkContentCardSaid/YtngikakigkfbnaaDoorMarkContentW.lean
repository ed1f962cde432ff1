/- Walk: the law MarkContent. -/
import Derived.Test.YtngikakigkfbnaaDoorAlive05
import Derived.Test.YtngikakigkfbnaaDoorMarkContentPlain
import Derived.Deep.DeepCutAuto
import Derived.Handy
namespace Go.Proofs.YtngikakigkfbnaaDoor
set_option linter.unusedVariables false
set_option linter.unusedSimpArgs false
open Go Go.RowKit Go.Lib

theorem bare_first (c : ByteArray) (h : bareL c.data.toList) (h0 : 0 < c.size) : ((c[0].toNat : Int) == 32) = false ∧ ((c[0].toNat : Int) == 9) = false := by
  have hb := h.1 c[0] (by have e := drop_cons c 0 h0; rw [List.drop_zero] at e; rw [e]; rfl)
  rw [blankU_i] at hb
  simpa using hb
theorem bare_last (c : ByteArray) (h : bareL c.data.toList) (h0 : 0 < c.size) : ((c[c.size - 1].toNat : Int) == 32) = false ∧ ((c[c.size - 1].toNat : Int) == 9) = false := by
  have hb := h.2 c[c.size - 1] (by
    have e := take_snoc c (c.size - 1) (by omega)
    rw [take_full c _ (by omega)] at e
    rw [e, List.getLast?_append]; rfl)
  rw [blankU_i] at hb
  simpa using hb

theorem head_level (s : ByteArray) (h : headIs s = true) : 1 ≤ levelF s ∧ levelF s ≤ 6 := by
  unfold headIs at h
  simp only [Bool.and_eq_true, decide_eq_true_eq] at h
  exact ⟨h.1, h.2.1⟩

theorem made_data (c : ByteArray) : ((ByteArray.mk #[35, 32] ++ c) ++ ByteArray.mk #[32, 35]).data.toList = 35 :: 32 :: (c.data.toList ++ [32, 35]) := by
  simp
theorem made_size (c : ByteArray) : ((ByteArray.mk #[35, 32] ++ c) ++ ByteArray.mk #[32, 35]).size = c.size + 4 := by
  rw [← lst_size, made_data]; simp [lst_size]

set_option maxRecDepth 100000 in
set_option maxHeartbeats 1000000 in
theorem MarkContent_walk (s : ByteArray) (w : World) (hT : Tabs w) :
    Calls Tryd.prog 6 #[.string s] w fun e w' => e = .returned (.bool true) ∧ Below w.heap.size w w' := by
  by_cases hs : s.size ≤ 50000
  · have HT := Lib.hid hT
    clear hT
    have d1 : decide ((50000 : Int) < (s.size : Int)) = false := decide_eq_false (by omega)
    have hq := fun w => Head_calls s w (by omega)
    cases hi : headIs s with
    | false =>
      rw [headF_no s hi] at hq
      clear hi
      go_enter Tryd.func6, Tryd.ntmps6
      go_wp2_with fail
      refine (alive05_calls _ HT.out).mono ?_
      rintro e w1 ⟨rfl, b1⟩
      go_wp2_with fail
      refine (hq _).mono ?_
      rintro e w2 ⟨rfl, b2⟩
      replace b1 := b1.trans (b2.mono b1.size)
      clear b2 hq
      go_wp2_with fail
      go_ret
      exact ⟨rfl, b1⟩
    | true =>
      rw [headF_yes s hi] at hq
      obtain ⟨l1, l2⟩ := head_level s hi
      have l3 := (headFrom_le s).1
      have l4 := headC_le s
      have hex := Lib.hid (headC_ext s)
      have hbare := headC_bare s
      clear hi
      generalize levelF s = l at *
      generalize headFrom s = f at *
      generalize headC s = c at *
      have hmd := head_made c _ (made_data c) hbare
      have hms := made_size c
      have hf1 := fun h0 => bare_first c hbare h0
      have hf2 := fun h0 => bare_last c hbare h0
      clear hbare
      have z1 : ((l : Int) == 0) = false := by simp; omega
      have z2 : decide ((6 : Int) < (l : Int)) = false := decide_eq_false (by omega)
      have z3 : decide ((f : Int) < (l : Int)) = false := decide_eq_false (by omega)
      have z4 : decide (((f + c.size : Nat) : Int) < (f : Int)) = false := decide_eq_false (by omega)
      have z5 : decide ((s.size : Int) < ((f + c.size : Nat) : Int)) = false := decide_eq_false (by omega)
      by_cases h0 : c.size = 0
      · obtain rfl : c = ⟨#[]⟩ := ba_ext (List.length_eq_zero_iff.1 (by rw [lst_size]; exact h0))
        clear hmd hf1 hf2 h0 hms
        go_enter Tryd.func6, Tryd.ntmps6
        go_wp2_with fail
        refine (alive05_calls _ HT.out).mono ?_
        rintro e w1 ⟨rfl, b1⟩
        go_wp2_with fail
        refine (hq _).mono ?_
        rintro e w2 ⟨rfl, b2⟩
        replace b1 := b1.trans (b2.mono b1.size)
        clear b2 hq
        go_wp2_with fail
        rw [show (ByteArray.mk #[35, 32] ++ ByteArray.mk #[32, 35] : ByteArray) = ⟨#[35, 32, 32, 35]⟩ from by decide]
        refine (Head_calls ⟨#[35, 32, 32, 35]⟩ _ (by decide)).mono ?_
        rintro e w3 ⟨rfl, b2⟩
        replace b1 := b1.trans (b2.mono b1.size)
        clear b2
        rw [show headF ⟨#[35, 32, 32, 35]⟩ = (1, 3, 3) from by kernel_rfl]
        go_wp2_with fail
        go_ret
        exact ⟨rfl, b1⟩
      · have hp : 0 < c.size := by omega
        have hne := toList_ne hp
        obtain ⟨g1, g2⟩ := hf1 hp
        obtain ⟨g3, g4⟩ := hf2 hp
        rw [if_neg h0] at hmd
        have hq2 := fun w => Head_calls (ByteArray.mk #[35, 32] ++ c ++ ByteArray.mk #[32, 35]) w (by omega)
        rw [hmd] at hq2
        clear hmd hms h0 hf1 hf2
        have k0 : (0 : Int) ≤ (c.size : Int) - 1 := by omega
        have k1 : (c.size : Int) - 1 < (c.size : Int) := by omega
        have ek : ((c.size : Int) - 1).toNat = c.size - 1 := by omega
        go_enter Tryd.func6, Tryd.ntmps6
        go_wp2_with fail
        refine (alive05_calls _ HT.out).mono ?_
        rintro e w1 ⟨rfl, b1⟩
        go_wp2_with fail
        refine (hq _).mono ?_
        rintro e w2 ⟨rfl, b2⟩
        replace b1 := b1.trans (b2.mono b1.size)
        clear b2 hq
        go_upto_region 11 with (fail)
        rw [hex.out]
        clear hex
        go_wp2_with fail
        refine (hq2 _).mono ?_
        rintro e w3 ⟨rfl, b2⟩
        replace b1 := b1.trans (b2.mono b1.size)
        clear b2 hq2
        have m1 : (((2 + c.size : Nat) : Int) == 2 + (c.size : Int)) = true := by simp
        go_wp2_with fail
        go_ret
        exact ⟨rfl, b1⟩
  · have d1 : decide ((50000 : Int) < (s.size : Int)) = true := decide_eq_true (by omega)
    go_enter Tryd.func6, Tryd.ntmps6
    go_wp2_with fail
    refine (alive05_calls _ hT).mono ?_
    rintro e w1 ⟨rfl, h1⟩
    go_wp2_with fail
    go_ret
    exact ⟨rfl, h1⟩

end Go.Proofs.YtngikakigkfbnaaDoor
