/- Walks: the references Rule, Under, Quote. -/
import Derived.Test.YtngikakigkfbnaaDoorMarkRefA
import Derived.Test.YtngikakigkfbnaaDoorMarkPlain3
import Derived.BigQuiet
import Derived.WalkSmall
import Derived.Deep.QuietTactic
namespace Go.Proofs.YtngikakigkfbnaaDoor
set_option linter.unusedVariables false
set_option linter.unusedSimpArgs false
open Go Go.RowKit Go.Lib

theorem refQuote_calls (s : ByteArray) (w : World) (hs : s.size ≤ 1000000) :
    Calls Tryd.prog 14 #[.string s] w fun e w' => e = .returned (.bool (Lib.hasPrefix s.data.toList [62])) ∧ w' = w := by
  by_cases h0 : s.size = 0
  · have hp := Lib.hid (pre_none s 62 h0)
    have d0 : ¬ 0 < s.size := by omega
    clear h0
    go_enter Tryd.func14, Tryd.ntmps14
    go_wp2_with fail
    go_ret
    exact ⟨ret_bool (by rw [hp.out]), rfl⟩
  · have hl : 0 < s.size := by omega
    have hp := Lib.hid (pre_one s 62 hl)
    have hu := Lib.hid (u8_eq s[0] 62)
    have d0 : decide ((0 : Int) < (s.size : Int)) = true := decide_eq_true (by omega)
    clear h0
    go_enter Tryd.func14, Tryd.ntmps14
    go_wp2_with fail
    go_ret
    exact ⟨ret_bool (by rw [hp.out, ← hu.out]; rfl), rfl⟩

theorem refUnder_calls (s : ByteArray) (w : World) (hs : s.size ≤ 1000000) :
    Calls Tryd.prog 12 #[.string s] w fun e w' => e = .returned (.int .i64 (underF s)) ∧ w' = w := by
  have hu : Hid (underF s = if lineOf s 61 = true then 1 else if lineOf s 45 = true then 2 else 0) := rfl
  have h1 := Lib.hid (under_all s 61)
  have h2 := Lib.hid (under_all s 45)
  have l1 := lead_le s ⟨#[61]⟩
  have l2 := lead_le s ⟨#[45]⟩
  have q1 := fun w => refmany_calls s 61 61 rfl w hs
  have q2 := fun w => refmany_calls s 45 45 rfl w hs
  generalize lead s ⟨#[61]⟩ = a at *
  generalize lead s ⟨#[45]⟩ = b at *
  have q3 := fun w => refblanks_calls s a w hs l1
  have q4 := fun w => refblanks_calls s b w hs l2
  generalize (s.data.toList.drop a).all blankU = x at *
  generalize (s.data.toList.drop b).all blankU = y at *
  obtain ⟨p, hp⟩ : ∃ p, decide (0 < a) = p := ⟨_, rfl⟩
  obtain ⟨q, hq⟩ : ∃ q, decide (0 < b) = q := ⟨_, rfl⟩
  have e1 : Hid (lineOf s 61 = (p && x)) := by show _ = _; rw [h1.out, hp]
  have e2 : Hid (lineOf s 45 = (q && y)) := by show _ = _; rw [h2.out, hq]
  clear h1 h2
  go_enter Tryd.func12, Tryd.ntmps12
  go_wp2_with fail
  refine (q1 _).mono ?_
  rintro e w1 ⟨rfl, rfl⟩
  go_wp2_with fail
  refine (q2 _).mono ?_
  rintro e w1 ⟨rfl, rfl⟩
  clear q1 q2
  have fin : ∀ (r : Int), ((if (p && x) = true then (1 : Int) else if (q && y) = true then 2 else 0) = r) → underF s = r := fun r hr => by rw [hu.out, e1.out, e2.out]; exact hr
  have Fin := Lib.hid fin
  clear fin hu e1 e2
  by_cases ha : 0 < a
  · obtain rfl : p = true := by rw [← hp]; exact decide_eq_true ha
    clear hp
    cases x with
    | true =>
      go_wp2_with fail
      refine (q3 _).mono ?_
      rintro e w1 ⟨rfl, rfl⟩
      go_wp2_with fail
      go_ret
      exact ⟨ret_int (Fin.out _ rfl).symm, rfl⟩
    | false =>
      go_wp2_with fail
      refine (q3 _).mono ?_
      rintro e w1 ⟨rfl, rfl⟩
      by_cases hb : 0 < b
      · obtain rfl : q = true := by rw [← hq]; exact decide_eq_true hb
        clear hq
        cases y
        all_goals
          go_wp2_with fail
          refine (q4 _).mono ?_
          rintro e w1 ⟨rfl, rfl⟩
          go_wp2_with fail
          go_ret
          exact ⟨ret_int (Fin.out _ rfl).symm, rfl⟩
      · obtain rfl : q = false := by rw [← hq]; exact decide_eq_false hb
        clear hq
        go_wp2_with fail
        go_ret
        exact ⟨ret_int (Fin.out _ rfl).symm, rfl⟩
  · obtain rfl : p = false := by rw [← hp]; exact decide_eq_false ha
    clear hp
    by_cases hb : 0 < b
    · obtain rfl : q = true := by rw [← hq]; exact decide_eq_true hb
      clear hq
      cases y
      all_goals
        go_wp2_with fail
        refine (q4 _).mono ?_
        rintro e w1 ⟨rfl, rfl⟩
        go_wp2_with fail
        go_ret
        exact ⟨ret_int (Fin.out _ rfl).symm, rfl⟩
    · obtain rfl : q = false := by rw [← hq]; exact decide_eq_false hb
      clear hq
      go_wp2_with fail
      go_ret
      exact ⟨ret_int (Fin.out _ rfl).symm, rfl⟩

theorem refRule_no (s : ByteArray) (w : World) (hs : s.size ≤ 1000000) (h : s.size = 0 ∨ ∃ h : 0 < s.size, s[0] ≠ 42 ∧ s[0] ≠ 45 ∧ s[0] ≠ 95) :
    Calls Tryd.prog 10 #[.string s] w fun e w' => e = .returned (.bool false) ∧ w' = w := by
  rcases h with h | ⟨h, h1, h2, h3⟩
  · have hz := size_isEmpty h
    clear h
    go_enter Tryd.func10, Tryd.ntmps10
    go_wp2_with fail
    go_ret
    exact ⟨rfl, rfl⟩
  · have hz := toList_ne h
    have e1 : ((s[0].toNat : Int) != 42) = true := by rw [bne, show (42 : Int) = ((42 : UInt8).toNat : Int) from rfl, u8_eq]; simpa using h1
    have e2 : ((s[0].toNat : Int) != 45) = true := by rw [bne, show (45 : Int) = ((45 : UInt8).toNat : Int) from rfl, u8_eq]; simpa using h2
    have e3 : ((s[0].toNat : Int) != 95) = true := by rw [bne, show (95 : Int) = ((95 : UInt8).toNat : Int) from rfl, u8_eq]; simpa using h3
    have i1 : (0 : Int) < (s.size : Int) := by omega
    clear h1 h2 h3
    go_enter Tryd.func10, Tryd.ntmps10
    go_wp2_with fail
    go_ret
    exact ⟨rfl, rfl⟩

set_option maxRecDepth 100000 in
set_option maxHeartbeats 1000000 in
theorem refRule_yes (s : ByteArray) (w : World) (hs : s.size ≤ 1000000) (h : 0 < s.size) (hc : s[0] = 42 ∨ s[0] = 45 ∨ s[0] = 95) :
    Calls Tryd.prog 10 #[.string s] w fun e w' => e = .returned (.bool (ruleOf s s[0])) ∧ Below w.heap.size w w' := by
  have hz := toList_ne h
  have hall := Lib.hid (ruleOf_all s s[0])
  have hyes := fun i (hi : i < s.size) (he : (s[i] == s[0]) = true) => Lib.hid (cnt_yes s s[0] i hi (eq_of_beq he))
  have hno := fun i (hi : i < s.size) (he : (s[i] == s[0]) = false) => Lib.hid (cnt_no s s[0] i hi (by simpa using he))
  have hle := cnt_le s s[0]
  have hok := fun i (hi : i < s.size) (ha : (s.data.toList.take i).all (inRule s[0]) = true) => Lib.hid (all_snoc s s[0] i hi ha)
  have hbad := fun i (hi : i < s.size) (ha : inRule s[0] s[i] = false) => Lib.hid (all_bad s s[0] i hi ha)
  have hin : ∀ x, inRule s[0] x = (x == s[0] || blankU x) := fun _ => rfl
  have HIN := Lib.hid hin
  have hu := fun i (hi : i < s.size) => Lib.hid (u8_eq s[i] s[0])
  have hcc : ((s[0].toNat : Int) != 42) = false ∨ (((s[0].toNat : Int) != 42) = true ∧ ((s[0].toNat : Int) != 45) = false) ∨ (((s[0].toNat : Int) != 42) = true ∧ ((s[0].toNat : Int) != 45) = true ∧ ((s[0].toNat : Int) != 95) = false) := by
    rcases hc with hc | hc | hc <;> rw [hc] <;> decide
  have i1 : (0 : Int) < (s.size : Int) := by omega
  clear hc hin
  go_enter Tryd.func10, Tryd.ntmps10
  go_upto_region 1 with (fail)
  go_cut [21] (fun v wx => v = .bool false ∧ wx = w)
  case first =>
    rcases hcc with h1 | ⟨h1, h2⟩ | ⟨h1, h2, h3⟩
    all_goals
      go_wp2_with fail
      go_meet
      exact ⟨rfl, rfl⟩
  case rest =>
    obtain ⟨rfl, rfl⟩ := hcut
    clear hcc
    go_wp2_with fail
    go_loopw [3, 4] (fun v3 v4 wr => ∃ i : Nat, i ≤ s.size ∧ v4 = .int .i64 i ∧ v3 = .int .i64 ((s.data.toList.take i).count s[0] : Nat) ∧ Hid ((s.data.toList.take i).all (inRule s[0]) = true) ∧ Below wc.heap.size wc wr) (fun _ v4 _ => s.size - (RowKit.intOf v4).toNat)
    case atStart => exact ⟨0, Nat.zero_le _, rfl, rfl, rfl, Below.refl _ _⟩
    case round =>
      obtain ⟨i, hi, rfl, rfl, hal, hB⟩ := hrel
      replace hle := hle i
      by_cases hlt : i < s.size
      · have j0 : (0 : Int) ≤ (i : Int) := by omega
        have j1 : (i : Int) < (s.size : Int) := by omega
        have d1 : decide ((i : Int) < (s.size : Int)) = true := by simpa using hlt
        cases hq : (s[i] == s[0]) with
        | true =>
          have hc2 := Lib.hid (hyes i hlt hq).out
          have d2 : ((s[i].toNat : Int) == (s[0].toNat : Int)) = true := by rw [(hu i hlt).out, hq]
          have ha2 : Hid ((s.data.toList.take (i + 1)).all (inRule s[0]) = true) := by show _ = _; rw [(hok i hlt hal.out).out, HIN.out, hq]; rfl
          generalize (s.data.toList.take i).count s[0] = n at *
          clear hyes hno hok hbad hu
          go_wp2_with fail
          go_quiet (fail)
          go_wp2_with fail
          exact ⟨⟨i + 1, by omega, by go_num, by rw [hc2.out]; go_num, ha2, below_drewN hB _⟩, by simp [RowKit.intOf]; omega⟩
        | false =>
          have d2 : ((s[i].toNat : Int) == (s[0].toNat : Int)) = false := by rw [(hu i hlt).out, hq]
          cases hb : blankU s[i] with
          | true =>
            have hc2 := Lib.hid (hno i hlt hq).out
            have ha2 : Hid ((s.data.toList.take (i + 1)).all (inRule s[0]) = true) := by show _ = _; rw [(hok i hlt hal.out).out, HIN.out, hq, hb]; rfl
            generalize (s.data.toList.take i).count s[0] = n at *
            clear hyes hno hok hbad hu
            go_wp2_with fail
            go_quiet (fail)
            go_wp2_with fail
            refine (refblank_calls s[i] _).mono ?_
            rintro e w1 ⟨rfl, rfl⟩
            rw [hb]
            go_wp2_with fail
            exact ⟨⟨i + 1, by omega, by go_num, by rw [hc2.out], ha2, below_drewN hB _⟩, by simp [RowKit.intOf]; omega⟩
          | false =>
            have hbd := Lib.hid (hbad i hlt (by rw [HIN.out, hq, hb]; rfl)).out
            clear hyes hno hok hbad hu
            go_wp2_with fail
            go_quiet (fail)
            go_wp2_with fail
            refine (refblank_calls s[i] _).mono ?_
            rintro e w1 ⟨rfl, rfl⟩
            rw [hb]
            go_wp2_with fail
            go_ret
            exact ⟨ret_bool (by rw [hall.out, hbd.out]; rfl), below_drewN hB _⟩
      · have d1 : decide ((i : Int) < (s.size : Int)) = false := decide_eq_false (by omega)
        have e2 := Lib.hid (take_full s i (by omega))
        have hf : Hid (ruleOf s s[0] = decide ((3 : Int) ≤ (((s.data.toList.take i).count s[0] : Nat) : Int))) := by
          show _ = _
          rw [hall.out, e2.out]
          have := hal.out
          rw [e2.out] at this
          rw [this]; rfl
        clear hyes hno hok hbad hu e2
        generalize (s.data.toList.take i).count s[0] = n at *
        go_wp2_with fail
        go_ret
        exact ⟨ret_bool hf.out.symm, hB⟩

theorem refRule_calls (s : ByteArray) (w : World) (hs : s.size ≤ 1000000) :
    Calls Tryd.prog 10 #[.string s] w fun e w' => e = .returned (.bool (ruleF s)) ∧ Below w.heap.size w w' := by
  by_cases h : 0 < s.size
  · by_cases hc : s[0] = 42 ∨ s[0] = 45 ∨ s[0] = 95
    · rw [ruleF_at s h hc]; exact refRule_yes s w hs h hc
    · have e : ruleF s = false := ruleF_far s h (fun e => hc (Or.inl e)) (fun e => hc (Or.inr (Or.inl e))) (fun e => hc (Or.inr (Or.inr e)))
      rw [e]
      refine (refRule_no s w hs (Or.inr ⟨h, fun e => hc (Or.inl e), fun e => hc (Or.inr (Or.inl e)), fun e => hc (Or.inr (Or.inr e))⟩)).mono ?_
      rintro e w1 ⟨rfl, rfl⟩
      exact ⟨rfl, Below.refl _ _⟩
  · have e : ruleF s = false := ruleF_nil s (by omega)
    rw [e]
    refine (refRule_no s w hs (Or.inl (by omega))).mono ?_
    rintro e w1 ⟨rfl, rfl⟩
    exact ⟨rfl, Below.refl _ _⟩

end Go.Proofs.YtngikakigkfbnaaDoor
