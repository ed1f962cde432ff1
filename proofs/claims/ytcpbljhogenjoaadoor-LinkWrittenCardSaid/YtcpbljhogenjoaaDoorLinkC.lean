/- Walks: link.Label. -/
import Derived.Test.YtcpbljhogenjoaaDoorLinkB
namespace Go.Proofs.YtcpbljhogenjoaaDoor
set_option linter.unusedVariables false
set_option linter.unusedSimpArgs false
open Go Go.RowKit Go.Shelf Go.Lib

theorem pre_at0 (t : ByteArray) (c : UInt8) : Lib.hasPrefix t.data.toList [c] = (decide (0 < t.size) && byteU t 0 == c) := by
  unfold Lib.hasPrefix byteU
  rw [← lst_size]
  cases t.data.toList with
  | nil => rfl
  | cons x l =>
    simp [List.isPrefixOf]
    rw [Bool.eq_iff_iff]; simp; exact ⟨fun e => e.symm, fun e => e.symm⟩

theorem fromF_le (s : ByteArray) (a : Int) : (fromF s a).size ≤ s.size := by
  unfold fromF
  split
  · rw [tail_sz]; omega
  · exact Nat.zero_le _

theorem fromF_in (s : ByteArray) (n : Nat) (h : n < s.size) : fromF s n = s.extract n s.size := by
  unfold fromF; rw [if_pos ⟨by omega, by omega⟩]; rfl
theorem fromF_out (s : ByteArray) (a : Int) (h : ¬ (0 ≤ a ∧ a < s.size)) : fromF s a = ⟨#[]⟩ := by unfold fromF; rw [if_neg h]

/-- a label at a place, whatever the place -/
def labelI (s : ByteArray) (a : Int) : ByteArray × Nat := labelF (fromF s a) 0
def destI (s : ByteArray) (a : Int) : ByteArray × Nat := destF (fromF s a) 0
def titleI (s : ByteArray) (a : Int) : ByteArray × Nat := titleF (fromF s a) 0

theorem labelI_in (s : ByteArray) (n : Nat) (h : n ≤ s.size) : labelI s n = labelF s n := by
  unfold labelI
  by_cases h2 : n < s.size
  · rw [fromF_in s n h2, tail_label s n h]
  · rw [fromF_out s n (by omega)]
    have d : decide (n < s.size) = false := decide_eq_false h2
    unfold labelF
    rw [d]; rfl
theorem destI_in (s : ByteArray) (n : Nat) (h : n ≤ s.size) : destI s n = destF s n := by
  unfold destI
  by_cases h2 : n < s.size
  · rw [fromF_in s n h2, tail_dest s n h]
  · rw [fromF_out s n (by omega)]
    have d : decide (n < s.size) = false := decide_eq_false h2
    unfold destF
    rw [d, bareF_out s n (by omega)]; rfl
theorem titleI_in (s : ByteArray) (n : Nat) (h : n ≤ s.size) : titleI s n = titleF s n := by
  unfold titleI
  by_cases h2 : n < s.size
  · rw [fromF_in s n h2, tail_title s n h]
  · rw [fromF_out s n (by omega)]
    have d : decide (n < s.size) = false := decide_eq_false h2
    unfold titleF
    rw [d]; rfl

theorem gap_all (u : ByteArray) : (trimB u gapT).toList.isEmpty = u.data.toList.all gapU := by
  rw [lst_isEmpty, trimB_data, Bool.eq_iff_iff, List.isEmpty_iff, tb_nil_iff, List.all_eq_true]
  simp only [gap_contains]

theorem lstop_contains (c : UInt8) : (ByteArray.mk #[91, 93]).data.toList.contains c = lstopU c := by
  show [91, 93].contains c = _
  unfold lstopU
  simp only [List.contains, List.elem]
  cases (c == 91) <;> cases (c == 93) <;> rfl

theorem label_no1 (t : ByteArray) (h : Lib.hasPrefix t.data.toList [91] = false) : labelF t 0 = (⟨#[]⟩, 0) := by
  rw [pre_at0] at h
  unfold labelF
  simp only [Nat.zero_add]
  rw [← Bool.and_assoc, h]; simp

theorem label_of (t : ByteArray) (h : Lib.hasPrefix t.data.toList [91] = true) (e : Nat) (he : upF t lstopU 1 = e) :
    labelF t 0 = if (decide (e < t.size) && (byteU t e == 93 && (decide (e ≤ 1000) && !((trimB (t.extract 1 e) gapT).toList.isEmpty)))) = true then (t.extract 1 e, e + 1) else (⟨#[]⟩, 0) := by
  rw [pre_at0] at h
  unfold labelF
  simp only [Nat.zero_add]
  rw [← Bool.and_assoc, h, he, gap_all]; simp

set_option maxHeartbeats 1000000 in
set_option maxRecDepth 100000 in
theorem Label_calls (s : ByteArray) (a : Int) (w : World) (hs : s.size ≤ 1000000) :
    Calls Tryd.prog 6 #[.string s, .int .i64 a] w fun e w' => e = .returned (.tuple #[.string (labelI s a).1, .int .i64 ((labelI s a).2 : Nat)]) ∧ Below w.heap.size w w' := by
  have hres : Hid (labelI s a = labelF (fromF s a) 0) := rfl
  have hfz := fromF_le s a
  have hfr := fun w => from_calls s a w hs
  generalize fromF s a = t at *
  have hts : t.size ≤ 1000000 := by omega
  have hpr := fun w => Tryd.strings_HasPrefix t ⟨#[91]⟩ w
  cases hp : Lib.hasPrefix t.data.toList [91] with
  | false =>
    have hr : Hid (labelI s a = (⟨#[]⟩, 0)) := by show _ = _; rw [hres.out, label_no1 t hp]
    rw [show (ByteArray.mk #[91]).data.toList = [91] from rfl, hp] at hpr
    clear hfz hp hres
    go_enter Tryd.func6, Tryd.ntmps6
    go_wp2_with fail
    refine (hfr _).mono ?_
    rintro e w1 ⟨rfl, rfl⟩
    go_wp2_with fail
    refine (hpr _).mono ?_
    rintro e w1 ⟨rfl, rfl⟩
    go_wp2_with fail
    go_ret2
    exact ⟨ret_si (by rw [hr.out]; try rfl) (by rw [hr.out]; try rfl), Below.refl _ _⟩
  | true =>
    have h0 : 0 < t.size := by rw [pre_at0] at hp; simp only [Bool.and_eq_true, decide_eq_true_eq] at hp; exact hp.1
    have hof := Lib.hid (label_of t hp _ rfl)
    have hup := fun w => upTo_calls t ⟨#[91, 93]⟩ lstopU lstop_contains 1 (by omega) w hts
    have hge := upF_ge t lstopU 1
    have hat := Lib.hid (upF_at t lstopU 1)
    rw [show (ByteArray.mk #[91]).data.toList = [91] from rfl, hp] at hpr
    unfold upI at hup
    generalize upF t lstopU 1 = e at *
    by_cases he : e < t.size
    · rw [if_pos he] at hup
      have hb := hat.out he
      rw [byteU_in t e he] at hb
      have i0 : (0 : Int) ≤ (e : Int) := by omega
      have i1 : (e : Int) < (t.size : Int) := by omega
      have i2 : (1 : Int) ≤ (e : Int) := by omega
      have i3 : (e : Int) ≤ (t.size : Int) := by omega
      have ub : ((t[e].toNat : Int) == 91) = (t[e] == 91) := u8_eq t[e] 91
      cases b : (t[e] == 91) with
      | true =>
        rw [b] at ub
        have hr : Hid (labelI s a = (⟨#[]⟩, 0)) := by
          show _ = _
          have : (t[e] == 93) = false := by rw [beq_iff_eq] at b; rw [b]; rfl
          rw [hres.out, hof.out, byteU_in t e he, this]; simp
        clear hfz hp hres hof hat hb
        go_enter Tryd.func6, Tryd.ntmps6
        go_wp2_with fail
        refine (hfr _).mono ?_
        rintro e w1 ⟨rfl, rfl⟩
        go_wp2_with fail
        refine (hpr _).mono ?_
        rintro e w1 ⟨rfl, rfl⟩
        go_wp2_with fail
        refine (hup _).mono ?_
        rintro e w1 ⟨rfl, hB⟩
        go_wp2_with fail
        go_ret2
        exact ⟨ret_si (by rw [hr.out]; try rfl) (by rw [hr.out]; try rfl), hB⟩
      | false =>
        rw [b] at ub
        have b93 : (t[e] == 93) = true := by unfold lstopU at hb; rw [b] at hb; exact hb
        by_cases hk : e ≤ 1000
        · have d1 : decide ((999 : Int) < (e : Int) - 1) = false := decide_eq_false (by omega)
          have htr := fun w => trimAll_calls (t.extract 1 e) gapT w (by rw [ByteArray.size_extract]; omega) (by decide) gap_ascii
          have hof2 : Hid (labelI s a = if (trimB (t.extract 1 e) gapT).toList.isEmpty = false then (t.extract 1 e, e + 1) else (⟨#[]⟩, 0)) := by
            show _ = _
            rw [hres.out, hof.out, byteU_in t e he, b93, decide_eq_true he, decide_eq_true hk]; simp
          generalize trimB (t.extract 1 e) gapT = T at *
          cases hT : T.toList.isEmpty with
          | true =>
            have hr : Hid (labelI s a = (⟨#[]⟩, 0)) := by show _ = _; rw [hof2.out, hT]; rfl
            clear hfz hp hres hof hat hb hof2
            go_enter Tryd.func6, Tryd.ntmps6
            go_wp2_with fail
            refine (hfr _).mono ?_
            rintro e w1 ⟨rfl, rfl⟩
            go_wp2_with fail
            refine (hpr _).mono ?_
            rintro e w1 ⟨rfl, rfl⟩
            go_wp2_with fail
            refine (hup _).mono ?_
            rintro e w1 ⟨rfl, hB⟩
            go_wp2_with fail
            refine (htr _).mono ?_
            rintro e w2 ⟨rfl, hB2⟩
            go_wp2_with fail
            go_ret2
            exact ⟨ret_si (by rw [hr.out]; try rfl) (by rw [hr.out]; try rfl), hB.trans (hB2.mono hB.size)⟩
          | false =>
            have hr : Hid (labelI s a = (t.extract 1 e, e + 1)) := by show _ = _; rw [hof2.out, hT]; rfl
            clear hfz hp hres hof hat hb hof2
            go_enter Tryd.func6, Tryd.ntmps6
            go_wp2_with fail
            refine (hfr _).mono ?_
            rintro e w1 ⟨rfl, rfl⟩
            go_wp2_with fail
            refine (hpr _).mono ?_
            rintro e w1 ⟨rfl, rfl⟩
            go_wp2_with fail
            refine (hup _).mono ?_
            rintro e w1 ⟨rfl, hB⟩
            go_wp2_with fail
            refine (htr _).mono ?_
            rintro e w2 ⟨rfl, hB2⟩
            go_wp2_with fail
            go_ret2
            exact ⟨ret_si (by rw [hr.out]; try rfl) (by rw [hr.out]; try rfl), hB.trans (hB2.mono hB.size)⟩
        · have d1 : decide ((999 : Int) < (e : Int) - 1) = true := decide_eq_true (by omega)
          have hr : Hid (labelI s a = (⟨#[]⟩, 0)) := by
            show _ = _
            rw [hres.out, hof.out, decide_eq_false hk]; simp
          clear hfz hp hres hof hat hb
          go_enter Tryd.func6, Tryd.ntmps6
          go_wp2_with fail
          refine (hfr _).mono ?_
          rintro e w1 ⟨rfl, rfl⟩
          go_wp2_with fail
          refine (hpr _).mono ?_
          rintro e w1 ⟨rfl, rfl⟩
          go_wp2_with fail
          refine (hup _).mono ?_
          rintro e w1 ⟨rfl, hB⟩
          go_wp2_with fail
          go_ret2
          exact ⟨ret_si (by rw [hr.out]; try rfl) (by rw [hr.out]; try rfl), hB⟩
    · rw [if_neg he] at hup
      have hr : Hid (labelI s a = (⟨#[]⟩, 0)) := by
        show _ = _
        rw [hres.out, hof.out, decide_eq_false he]; rfl
      clear hfz hp hres hof hat
      go_enter Tryd.func6, Tryd.ntmps6
      go_wp2_with fail
      refine (hfr _).mono ?_
      rintro e w1 ⟨rfl, rfl⟩
      go_wp2_with fail
      refine (hpr _).mono ?_
      rintro e w1 ⟨rfl, rfl⟩
      go_wp2_with fail
      refine (hup _).mono ?_
      rintro e w1 ⟨rfl, hB⟩
      go_wp2_with fail
      go_ret2
      exact ⟨ret_si (by rw [hr.out]; try rfl) (by rw [hr.out]; try rfl), hB⟩

end Go.Proofs.YtcpbljhogenjoaaDoor
